/- New of ranks; whether a score lies within two bounds. -/
import Derived.Test.YtbjfigegiffefaaRkRange
set_option linter.unusedVariables false
set_option linter.unusedSimpArgs false
namespace Pantry
open Go Go.RowKit
/-- Does a score lie within two bounds? -/
def withinF (x a : Nat) (oa : Bool) (b : Nat) (ob : Bool) : Bool :=
  ((FloatKind.f64.format.order x a == some .gt) || ((FloatKind.f64.format.order x a == some .eq) && !oa)) && ((FloatKind.f64.format.order x b == some .lt) || ((FloatKind.f64.format.order x b == some .eq) && !ob))
theorem placed_nil (seed : Nat) : Placed seed [] := fun i c x hi => by simp at hi
/-- A dict without entries. -/
def Dc.zero (seed : Nat) : Dc := ⟨seed, 0, [], 0, [], 0⟩
theorem Dc.zero_wf {seed : Nat} (h : seed < 18446744073709551616) : (Dc.zero seed).Wf :=
  ⟨h, List.nodup_nil, List.nodup_nil, (fun e he => by cases he), Nat.zero_le _, placed_nil _, placed_nil _, fun i c hi => absurd hi (Nat.not_lt_zero i), fun _ => rfl, fun hh => absurd rfl hh⟩
end Pantry
namespace Go.Proofs.Ytbjfigegiffefaa
open Go.RowKit Pantry

theorem dNew_any (w : World) (seed : Nat) : Calls Try.prog 37 #[.int .u64 seed] w fun e w' => e = .returned (.pointer (some ⟨w.heap.size, 0, none⟩)) ∧ w' = w.alloc (.cells #[.int .u64 seed, .slice none 0 0, .slice none 0 0, .int .i64 0, .int .i64 0] 101) := by
  go_enter Try.func37, Try.ntmps37
  go_wp2_with fail
  go_ret
  exact ⟨rfl, rfl⟩
def NewPost (seed : Nat) (w : World) (e : Ending) (w' : World) : Prop :=
  ∃ r d D, e = .returned (.pointer (some ⟨r, 0, none⟩)) ∧ RkAt w' r seed d D (.slice none 0 0) [] ∧ Below w.heap.size w w' ∧ ∀ k, RFoot r d D (.slice none 0 0) k → w.heap.size ≤ k
theorem rkNew_any (w : World) (seed : Nat) (hs : seed < 18446744073709551616) : Calls Try.prog 18 #[.int .u64 seed] w (NewPost seed w) := by
  go_enter Try.func18, Try.ntmps18
  go_wp2_with (go_at_call 37; refine (dNew_any _ _).mono ?_; rintro e w1 ⟨rfl, rfl⟩)
  go_ret
  refine ⟨w.heap.size + 1, w.heap.size, Dc.zero seed, by simp, ⟨?_, ⟨?_, ?_, ?_, ?_, ?_, ?_⟩, Dc.zero_wf hs, ⟨rfl, .inl ⟨rfl, rfl⟩⟩, List.Perm.refl _, ⟨List.Pairwise.nil, ?_, ?_, Nat.zero_le _⟩⟩, ?_, ?_⟩
  · have := heap_alloc_new (w.alloc (.cells #[.int .u64 seed, .slice none 0 0, .slice none 0 0, .int .i64 0, .int .i64 0] 101)) (.cells #[.int .u64 seed, .pointer (some ⟨w.heap.size, 0, none⟩), .slice none 0 0, .int .i64 0] 78)
    simpa [rkCost] using this
  · rw [heap_alloc_old (by simp)]
    exact heap_alloc_new w _
  · exact ⟨fun h => absurd rfl h, fun h => absurd rfl h, Nat.zero_le _⟩
  · exact ⟨fun h => absurd rfl h, fun h => absurd rfl h, Nat.zero_le _⟩
  · intro c hc; cases hc
  · intro c hc; cases hc
  · intro h; exact absurd rfl h
  · intro p hp; cases hp
  · intro p hp; cases hp
  · exact ((Below.refl _ _).alloc (Nat.le_refl _) _).alloc (by simp) _
  · rintro k (rfl | (rfl | ⟨h, -⟩ | ⟨h, -⟩ | ⟨e, he, -⟩) | hk)
    · omega
    · omega
    · exact absurd rfl h
    · exact absurd rfl h
    · cases he
    · cases hk
set_option maxHeartbeats 2000000 in
theorem within_any (w : World) (x a : Nat) (oa : Bool) (b : Nat) (ob : Bool) :
    Calls Try.prog 25 #[.float .f64 x, .agg #[.float .f64 a, .bool oa], .agg #[.float .f64 b, .bool ob]] w (QPost w (.bool (withinF x a oa b ob))) := by
  have HB := Lib.hid (((Below.refl _ w).alloc (Nat.le_refl _) (.cells #[.float .f64 a, .bool oa] 58)).alloc (by simp) (.cells #[.float .f64 b, .bool ob] 58))
  have HV : ∀ u1 u2 u3 u4, (FloatKind.f64.format.order x a == some .gt) = u1 → (FloatKind.f64.format.order x a == some .eq) = u2 → (FloatKind.f64.format.order x b == some .lt) = u3 → (FloatKind.f64.format.order x b == some .eq) = u4 → Hid (withinF x a oa b ob = ((u1 || (u2 && !oa)) && (u3 || (u4 && !ob)))) := by
    rintro _ _ _ _ rfl rfl rfl rfl; exact Lib.hid rfl
  obtain ⟨u1, h1⟩ : ∃ u, (FloatKind.f64.format.order x a == some .gt) = u := ⟨_, rfl⟩
  obtain ⟨u2, h2⟩ : ∃ u, (FloatKind.f64.format.order x a == some .eq) = u := ⟨_, rfl⟩
  obtain ⟨u3, h3⟩ : ∃ u, (FloatKind.f64.format.order x b == some .lt) = u := ⟨_, rfl⟩
  obtain ⟨u4, h4⟩ : ∃ u, (FloatKind.f64.format.order x b == some .eq) = u := ⟨_, rfl⟩
  have HW := HV u1 u2 u3 u4 h1 h2 h3 h4
  clear HV
  cases u1 <;> cases u2 <;> cases oa <;> cases u3 <;> cases u4 <;> cases ob
  all_goals
    go_enter Try.func25, Try.ntmps25
    go_wp2_with fail
    go_ret
    exact ⟨by rw [HW.out]; rfl, HB.out⟩
end Go.Proofs.Ytbjfigegiffefaa
