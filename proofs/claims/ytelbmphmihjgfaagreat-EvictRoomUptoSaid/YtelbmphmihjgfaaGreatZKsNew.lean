/- A keyspace: New. -/
import Derived.Test.YtelbmphmihjgfaaGreatZKsPut
set_option linter.unusedVariables false
set_option linter.unusedSimpArgs false
namespace Pantry
open Go Go.RowKit
/-- How a space may be made. -/
structure Cfg where
  seed : Nat
  most : Int
  policy : Int
  samples : Int
def Cfg.bad (c : Cfg) : Prop := c.most < 0 ∨ c.policy < 0 ∨ 2 < c.policy ∨ c.samples < 0 ∨ 16 < c.samples ∨ (c.samples = 0 ∧ c.policy ≠ 0)
instance (c : Cfg) : Decidable c.bad := by unfold Cfg.bad; exact inferInstance
def Cfg.sp (c : Cfg) : Sp := ⟨c.seed, c.most, c.policy, c.samples, 0, 0, [], [], []⟩
theorem Cfg.good {c : Cfg} (h : ¬ c.bad) (hs : c.seed < 18446744073709551616) (hm : c.most < 9223372036854775808) : SpGood c.sp := by
  unfold Cfg.bad at h
  refine ⟨hs, List.nodup_nil, List.nodup_nil, by unfold Sp.mass Cfg.sp; simp, (fun e he => by cases he), (fun e he => by cases he), (fun e he => by cases he), by show (0 : Nat) ≤ _; omega, (fun e he => by cases he), ⟨by show 0 ≤ c.most; omega, hm⟩, ⟨by show 0 ≤ c.policy; omega, by show c.policy ≤ 2; omega⟩, ⟨by show 0 ≤ c.samples; omega, by show c.samples ≤ 16; omega⟩, fun hp => ?_⟩
  show c.samples ≠ 0
  have : c.policy ≠ 0 := hp
  omega
end Pantry
namespace Go.Proofs.YtelbmphmihjgfaaGreat.DEnt
open Go.RowKit Pantry Go.Maps

def Cfg.val (c : Cfg) : Value := .agg #[.int .u64 c.seed, .int .i64 c.most, .int .i64 c.policy, .int .i64 c.samples]
def NewPost (c : Cfg) (w : World) (r : Ending) (w' : World) : Prop :=
  Below w.heap.size w w' ∧ ((c.bad ∧ r = .returned (.tuple #[.pointer none, .int .i64 3])) ∨ (¬ c.bad ∧ ∃ s F, r = .returned (.tuple #[.pointer (some ⟨s, 0, none⟩), .int .i64 0]) ∧ SpH w' s F c.sp ∧ ∀ k, F k → w.heap.size ≤ k))
set_option maxHeartbeats 2000000 in
theorem kNew_bad (w : World) (c : Cfg) (h : c.bad) (hm : -9223372036854775808 ≤ c.most ∧ c.most < 9223372036854775808) : Calls Tryz.prog 23 #[Cfg.val c] w (NewPost c w) := by
  have HP : Hid (∀ o, NewPost c w (.returned (.tuple #[.pointer none, .int .i64 3])) (w.alloc o)) := Lib.hid fun o => ⟨(Below.refl _ _).alloc (Nat.le_refl _) _, .inl ⟨h, rfl⟩⟩
  unfold Cfg.bad at h
  obtain ⟨seed, most, policy, samples⟩ := c
  simp only at *
  unfold Cfg.val
  simp only
  have key : most < 0 ∨ (¬ most < 0 ∧ policy < 0) ∨ (¬ most < 0 ∧ ¬ policy < 0 ∧ 2 < policy) ∨ (¬ most < 0 ∧ ¬ policy < 0 ∧ ¬ 2 < policy ∧ samples < 0) ∨ (¬ most < 0 ∧ ¬ policy < 0 ∧ ¬ 2 < policy ∧ ¬ samples < 0 ∧ 16 < samples) ∨ (¬ most < 0 ∧ ¬ policy < 0 ∧ ¬ 2 < policy ∧ ¬ samples < 0 ∧ ¬ 16 < samples ∧ samples = 0 ∧ ¬ policy = 0) := by omega
  clear h
  rcases key with h | ⟨h1, h⟩ | ⟨h1, h2, h⟩ | ⟨h1, h2, h3, h⟩ | ⟨h1, h2, h3, h4, h⟩ | ⟨h1, h2, h3, h4, h5, rfl, h⟩
  · go_enter Tryz.func23, Tryz.ntmps23
    go_wp2_with fail
    go_ret2
    exact HP.out _
  · go_enter Tryz.func23, Tryz.ntmps23
    go_wp2_with fail
    go_ret2
    exact HP.out _
  · go_enter Tryz.func23, Tryz.ntmps23
    go_wp2_with fail
    go_ret2
    exact HP.out _
  · go_enter Tryz.func23, Tryz.ntmps23
    go_wp2_with fail
    go_ret2
    exact HP.out _
  · go_enter Tryz.func23, Tryz.ntmps23
    go_wp2_with fail
    go_ret2
    exact HP.out _
  · have hb : (policy == 0) = false := by simpa using h
    go_enter Tryz.func23, Tryz.ntmps23
    go_wp2_with fail
    go_ret2
    exact HP.out _
/-- The blocks of a new space. -/
theorem newSpH (w W : World) (c : Cfg) (hc : ¬ c.bad) (hs : c.seed < 18446744073709551616) (hm : c.most < 9223372036854775808) (m l t s : Nat)
    (h1 : W.heap[m]? = some (.cells #[.int .u64 c.seed, .slice none 0 0, .slice none 0 0, .int .i64 0, .int .i64 0] 154)) (s2 : Nat) (hs2 : s2 < 18446744073709551616) (h2 : W.heap[l]? = some (.cells #[.int .u64 s2, .slice none 0 0, .slice none 0 0, .int .i64 0, .int .i64 0] 154))
    (h3 : W.heap[t]? = some (.map #[] 0)) (hml : m ≠ l)
    (h4 : W.heap[s]? = some (.cells #[.int .u64 c.seed, .int .i64 c.most, .int .i64 c.policy, .int .i64 c.samples, .int .i64 0, .int .u64 0, .int .i64 0, .pointer (some ⟨m, 0, none⟩), .pointer (some ⟨l, 0, none⟩), .map (some t), .slice none 0 0] 81)) :
    SpH W s (SFoot s m l t (Dc.zero c.seed) (Dc.zero s2) (.slice none 0 0) []) c.sp := by
  have z : ∀ (d sd : Nat), W.heap[d]? = some (.cells #[.int .u64 sd, .slice none 0 0, .slice none 0 0, .int .i64 0, .int .i64 0] 154) → DictAt W d (Dc.zero sd) := fun d sd h =>
    ⟨h, ⟨fun h => absurd rfl h, fun h => absurd rfl h, Nat.zero_le _⟩, ⟨fun h => absurd rfl h, fun h => absurd rfl h, Nat.zero_le _⟩, (fun c hc => by cases hc), (fun c hc => by cases hc), fun h => absurd rfl h⟩
  refine ⟨⟨m, l, t, Dc.zero c.seed, Dc.zero s2, .slice none 0 0, ⟨h4, z m _ h1, Dc.zero_wf hs, List.Perm.refl _, z l _ h2, Dc.zero_wf hs2, List.Perm.refl _, (fun e he => by cases he), ⟨.map [], ?_, Nat.le_refl _, fun k => rfl⟩, World.ownsRow_nil _ _ _ _, fun k hk hl => hml ((zero_foot hk).symm.trans (zero_foot hl))⟩, fun k => Iff.rfl⟩, Cfg.good hc hs hm⟩
  exact ⟨#[], 0, h3, ⟨by simp, MapKept.stamped_empty 0, by simp⟩, Nat.le_refl _, rfl⟩
theorem world5 (w : World) (o0 o1 o2 o3 o4 : Obj) :
    (((((w.alloc o0).alloc o1).alloc o2).alloc o3).alloc o4).drew.heap[w.heap.size + 1]? = some o1 ∧ (((((w.alloc o0).alloc o1).alloc o2).alloc o3).alloc o4).drew.heap[w.heap.size + 1 + 1]? = some o2 ∧
    (((((w.alloc o0).alloc o1).alloc o2).alloc o3).alloc o4).drew.heap[w.heap.size + 1 + 1 + 1]? = some o3 ∧ (((((w.alloc o0).alloc o1).alloc o2).alloc o3).alloc o4).drew.heap[w.heap.size + 1 + 1 + 1 + 1]? = some o4 := by
  have e : (((((w.alloc o0).alloc o1).alloc o2).alloc o3).alloc o4).drew.heap = ((((w.heap.push o0).push o1).push o2).push o3).push o4 := rfl
  rw [e]
  refine ⟨?_, ?_, ?_, ?_⟩ <;> (simp only [Array.getElem?_push, Array.size_push]; repeat (first | rw [if_neg (by omega)] | rw [if_pos (by omega)] | rw [if_pos trivial]))
theorem box4 {w : World} {v0 v1 v2 v3 : Value} {T : TypeId} : ∀ W : World, Below (w.heap.size + 1) (w.alloc (.cells #[v0, v1, v2, v3] T)) W → (W.cell? ⟨w.heap.size, 0, none⟩ = some v0 ∧ W.cell? ⟨w.heap.size, 1, none⟩ = some v1 ∧ W.cell? ⟨w.heap.size, 2, none⟩ = some v2 ∧ W.cell? ⟨w.heap.size, 3, none⟩ = some v3) := fun W hb => by
  have e : (w.alloc (.cells #[v0, v1, v2, v3] T)).heap[w.heap.size]? = some (.cells #[v0, v1, v2, v3] T) := by
    show (w.heap.push _)[w.heap.size]? = _
    simp
  exact ⟨(hb.cell (Nat.lt_succ_self _)).trans (by unfold World.cell?; dsimp only; rw [e]; rfl), (hb.cell (Nat.lt_succ_self _)).trans (by unfold World.cell?; dsimp only; rw [e]; rfl), (hb.cell (Nat.lt_succ_self _)).trans (by unfold World.cell?; dsimp only; rw [e]; rfl), (hb.cell (Nat.lt_succ_self _)).trans (by unfold World.cell?; dsimp only; rw [e]; rfl)⟩
theorem sfoot_ge {n m l t s : Nat} {a b : Nat} {k : Nat} (hk : SFoot s m l t (Dc.zero a) (Dc.zero b) (.slice none 0 0) [] k) (h1 : n ≤ s) (h2 : n ≤ m) (h3 : n ≤ l) (h4 : n ≤ t) : n ≤ k := by
  rcases hk with rfl | hk | hk | ⟨e, he, -⟩ | rfl | hk
  · exact h1
  · have := zero_foot hk; omega
  · have := zero_foot hk; omega
  · cases he
  · exact h4
  · cases hk
theorem below5 (w : World) (o0 o1 o2 o3 o4 : Obj) : Below w.heap.size w (((((w.alloc o0).alloc o1).alloc o2).alloc o3).alloc o4).drew := by
  repeat (first | exact Below.refl _ _ | refine Below.drew ?_ | refine Below.alloc ?_ (by first | exact Nat.le_refl _ | (simp only [World.size_alloc, heap_drew]; omega)) _)
set_option maxHeartbeats 8000000 in
theorem kNew_good (w : World) (c : Cfg) (h : ¬ c.bad) (hs : c.seed < 18446744073709551616) (hm : -9223372036854775808 ≤ c.most ∧ c.most < 9223372036854775808) : Calls Tryz.prog 23 #[Cfg.val c] w (NewPost c w) := by
  have hmx : Tryz.prog.follows .mixedOrders = true := by kernel_rfl
  have hmk := @run_makeMap Tryz.prog
  have HDN := fun W sd => Lib.hid (dNew_any W sd)
  have HH := Lib.hid h
  have HS := Lib.hid hs
  have HM := Lib.hid hm.2
  obtain ⟨s2, hs2, hwr⟩ : ∃ s2 : Nat, s2 < 18446744073709551616 ∧ IntKind.u64.wrap ((c.seed : Int) + 1) = (s2 : Int) := ⟨(c.seed + 1) % 18446744073709551616, Nat.mod_lt _ (by decide), by rw [IntKind.wrap_u64]; omega⟩
  have HS2 := Lib.hid hs2
  have hk : ¬ c.most < 0 ∧ ¬ c.policy < 0 ∧ ¬ 2 < c.policy ∧ ¬ c.samples < 0 ∧ ¬ 16 < c.samples := by unfold Cfg.bad at h; omega
  obtain ⟨h1, h2, h3, h4, h5⟩ := hk
  have h6 : ¬ c.samples = 0 ∨ c.policy = 0 := by unfold Cfg.bad at h; omega
  unfold Cfg.val
  clear h hs hm hs2
  have hb6 : ((c.samples == 0) && !(c.policy == 0)) = false := by
    rcases h6 with h6 | h6
    · have : (c.samples == 0) = false := by simpa using h6
      rw [this]; rfl
    · have : (c.policy == 0) = true := by simpa using h6
      rw [this]; simp
  clear h6
  obtain ⟨q0, hq0⟩ : ∃ q, (c.samples == 0) = q := ⟨_, rfl⟩
  obtain ⟨q1, hq1⟩ : ∃ q, (c.policy == 0) = q := ⟨_, rfl⟩
  rw [hq0, hq1] at hb6
  cases q0 <;> cases q1 <;> first | (cases hb6; done) | skip
  all_goals
    clear hb6
    go_enter Tryz.func23, Tryz.ntmps23
    go_wp2_with fail
    have HK := Lib.hid (box4 (w := w) (v0 := .int .u64 c.seed) (v1 := .int .i64 c.most) (v2 := .int .i64 c.policy) (v3 := .int .i64 c.samples) (T := 24))
    go_region_held3 (fun w' => w'.cell? ⟨w.heap.size, 0, none⟩ = some (.int .u64 c.seed) ∧ w'.cell? ⟨w.heap.size, 1, none⟩ = some (.int .i64 c.most) ∧ w'.cell? ⟨w.heap.size, 2, none⟩ = some (.int .i64 c.policy) ∧ w'.cell? ⟨w.heap.size, 3, none⟩ = some (.int .i64 c.samples)) (exact HK.out _ (by repeat (first | exact Below.refl _ _ | refine Below.drew ?_ | refine Below.alloc ?_ (by first | exact Nat.le_refl _ | (simp only [World.size_alloc, heap_drew]; omega)) _))) (first | (go_at_call 49; refine (HDN _ _).out.mono ?_; rintro r w1 ⟨rfl, rfl⟩))
    all_goals (go_wp2_with fail)
    all_goals go_ret2
    all_goals
      first
      | (obtain ⟨e1, e2, e3, e4⟩ := world5 w (.cells #[.int .u64 c.seed, .int .i64 c.most, .int .i64 c.policy, .int .i64 c.samples] 24) (.cells #[.int .u64 c.seed, .slice none 0 0, .slice none 0 0, .int .i64 0, .int .i64 0] 154) (.cells #[.int .u64 s2, .slice none 0 0, .slice none 0 0, .int .i64 0, .int .i64 0] 154) (.map #[] 0) (.cells #[.int .u64 c.seed, .int .i64 c.most, .int .i64 c.policy, .int .i64 c.samples, .int .i64 0, .int .u64 0, .int .i64 0, .pointer (some ⟨w.heap.size + 1, 0, none⟩), .pointer (some ⟨w.heap.size + 1 + 1, 0, none⟩), .map (some (w.heap.size + 1 + 1 + 1)), .slice none 0 0] 81)
         exact ⟨below5 w _ _ _ _ _, .inr ⟨HH.out, _, _, rfl, newSpH w _ c HH.out HS.out HM.out _ _ _ _ e1 s2 HS2.out e2 e3 (by omega) e4, fun k hk => sfoot_ge hk (by omega) (by omega) (by omega) (by omega)⟩⟩)
      | (obtain ⟨e1, e2, e3, e4⟩ := world5 w (.cells #[.int .u64 c.seed, .int .i64 c.most, .int .i64 c.policy, .int .i64 c.samples] 24) (.cells #[.int .u64 c.seed, .slice none 0 0, .slice none 0 0, .int .i64 0, .int .i64 0] 154) (.map #[] 0) (.cells #[.int .u64 s2, .slice none 0 0, .slice none 0 0, .int .i64 0, .int .i64 0] 154) (.cells #[.int .u64 c.seed, .int .i64 c.most, .int .i64 c.policy, .int .i64 c.samples, .int .i64 0, .int .u64 0, .int .i64 0, .pointer (some ⟨w.heap.size + 1, 0, none⟩), .pointer (some ⟨w.heap.size + 1 + 1 + 1, 0, none⟩), .map (some (w.heap.size + 1 + 1)), .slice none 0 0] 81)
         exact ⟨below5 w _ _ _ _ _, .inr ⟨HH.out, _, _, rfl, newSpH w _ c HH.out HS.out HM.out _ _ _ _ e1 s2 HS2.out e3 e2 (by omega) e4, fun k hk => sfoot_ge hk (by omega) (by omega) (by omega) (by omega)⟩⟩)
      | (obtain ⟨e1, e2, e3, e4⟩ := world5 w (.cells #[.int .u64 c.seed, .int .i64 c.most, .int .i64 c.policy, .int .i64 c.samples] 24) (.map #[] 0) (.cells #[.int .u64 c.seed, .slice none 0 0, .slice none 0 0, .int .i64 0, .int .i64 0] 154) (.cells #[.int .u64 s2, .slice none 0 0, .slice none 0 0, .int .i64 0, .int .i64 0] 154) (.cells #[.int .u64 c.seed, .int .i64 c.most, .int .i64 c.policy, .int .i64 c.samples, .int .i64 0, .int .u64 0, .int .i64 0, .pointer (some ⟨w.heap.size + 1 + 1, 0, none⟩), .pointer (some ⟨w.heap.size + 1 + 1 + 1, 0, none⟩), .map (some (w.heap.size + 1)), .slice none 0 0] 81)
         exact ⟨below5 w _ _ _ _ _, .inr ⟨HH.out, _, _, rfl, newSpH w _ c HH.out HS.out HM.out _ _ _ _ e2 s2 HS2.out e3 e1 (by omega) e4, fun k hk => sfoot_ge hk (by omega) (by omega) (by omega) (by omega)⟩⟩)
end Go.Proofs.YtelbmphmihjgfaaGreat.DEnt
