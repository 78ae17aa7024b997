/- The law's plays: a row of pushes. -/
import Derived.Test.YtefoieloakfhfaaZPlaysB
set_option linter.unusedVariables false
set_option linter.unusedSimpArgs false
namespace Go.Proofs.Ytefoieloakfhfaa
open Go.RowKit Pantry

theorem byte_at {w w' : World} (hk : KeepsT opT w w') {a : Nat} {k : Int} (h : w.heap[a]? = some (.cells #[.int .u8 k] 5)) : w'.cell? ⟨a, 0, none⟩ = some (.int .u8 k) := by
  rw [cell_of_row w' a 0 _ _ _ (hk _ _ _ _ (.inr rfl) h)]; rfl
theorem heap_two (w : World) (X : Obj) : ((w.alloc X).alloc X).heap[w.heap.size]? = some X ∧ ((w.alloc X).alloc X).heap[w.heap.size + 1]? = some X := by
  refine ⟨?_, ?_⟩
  · rw [Below.heap_alloc (w.alloc X) X w.heap.size (by simp)]
    exact heap_alloc_new w X
  · have := heap_alloc_new (w.alloc X) X
    rw [World.size_alloc] at this
    exact this
theorem conv_byte {k : Nat} (hk : k < 256) (W : World) (a : Nat) (h : W.cell? ⟨a, 0, none⟩ = some (.int .u8 (k : Int))) : (convert 36 9 (.slice (some ⟨a, 0, none⟩) 1 1)).run Try.prog W = .ok (.string ⟨#[UInt8.ofNat k]⟩) W := by
  refine run_string_of (l := [UInt8.ofNat k]) Try.underlying36 Try.underlying5 Try.underlying9 rfl ?_
  have e : b8 [UInt8.ofNat k] = [.int .u8 (k : Int)] := by
    simp only [b8, List.map_cons, List.map_nil]
    rw [UInt8.toNat_ofNat_of_lt' (by simpa using hk)]
  rw [e]
  intro j u hj
  cases j with
  | zero =>
    obtain rfl : Value.int .u8 (k : Int) = u := by simpa using hj
    exact ⟨rfl, _, rfl, by simpa [Addr.add] using h⟩
  | succ j => simp at hj

set_option maxHeartbeats 8000000 in
set_option maxRecDepth 100000 in
theorem plays_many (w : World) (p q : Option Addr) (StE : World → Prop) (hq : ∀ A B, StE A → Chg (fun _ => False) A B → StE B) (who i j : Int) (flag : Bool) (s : Txt) (big : Int) (hs : s.length ≤ 140737488351232)
    (hD : ∀ A (t : Txt), StE A → t.length ≤ 281474976710656 → ∃ c St Md, St A ∧ Duo St Md StE 42 11 (.pointer q) (.pointer p) [.bool flag, .string ⟨t.toArray⟩] (.int .i64 c)) (hst : StE w) :
    Calls Try.prog 30 #[.pointer p, .pointer q, .agg #[.int .i64 who, .int .i64 7, .int .i64 i, .int .i64 j, .bool flag, .string ⟨s.toArray⟩, .int .i64 big]] w (PlayPost StE) := by
  obtain ⟨N, hN⟩ : ∃ N : Nat, min (max j 0) 100 = (N : Int) := ⟨(min (max j 0) 100).toNat, by omega⟩
  have hN2 : N ≤ 100 := by omega
  have HQ := Lib.hid hq
  have HDD := Lib.hid hD
  obtain ⟨w1, hw1⟩ : ∃ w1, w.alloc (.cells #[.int .i64 who, .int .i64 7, .int .i64 i, .int .i64 j, .bool flag, .string ⟨s.toArray⟩, .int .i64 big] 39) = w1 := ⟨_, rfl⟩
  have HX1 : Hid (Bx w1 w.heap.size ⟨who, 7, i, j, flag, s, big⟩) := Lib.hid (by rw [← hw1]; exact box_start (o := ⟨who, 7, i, j, flag, s, big⟩))
  have HS1 : Hid (StE w1) := Lib.hid (by rw [← hw1]; exact hq w _ hst ((Chg.refl _ w).alloc _))
  obtain ⟨x0, x1, x2, x3, x4, x5, x6⟩ := HX1.out.cells
  clear hst hD hq
  go_enter Try.func30, Try.ntmps30
  go_wp2_with fail
  clear x0 x1 x2 x3 x4 x5 x6 hw1
  go_loopw [150] (fun z wr => ∃ k : Nat, k ≤ N ∧ z = .int .i64 k ∧ Hid (StE wr) ∧ Hid (Bx wr w.heap.size ⟨who, 7, i, j, flag, s, big⟩)) (fun z _ => N - (intOf z).toNat)
  case atStart => exact ⟨0, Nat.zero_le _, rfl, HS1, HX1⟩
  case round =>
    obtain ⟨k, hk, rfl, HS, HX⟩ := hrel
    by_cases hlt : k < N
    · have hw8 := wrap_byte (k := k) (by omega)
      obtain ⟨c, St, Md, hst, hD⟩ := HDD.out wr (s ++ [UInt8.ofNat k]) HS.out (by simp; omega)
      have hcat : (⟨s.toArray⟩ : ByteArray) ++ ⟨#[UInt8.ofNat k]⟩ = ⟨(s ++ [UInt8.ofNat k]).toArray⟩ := ByteArray.ext (by simp [ByteArray.data_append])
      obtain ⟨T, hT⟩ : ∃ T, (⟨(s ++ [UInt8.ofNat k]).toArray⟩ : ByteArray) = T := ⟨_, rfl⟩
      rw [hT] at hD hcat
      have HD := Lib.hid hD
      have hconv := fun W a => conv_byte (k := k) (by omega) W a
      have HSA := Lib.hid (hD.st _ (wr.alloc (.cells #[.int .u8 (k : Int)] 5)).drew hst ((Chg.refl _ wr).alloc _).drew)
      have HSB := Lib.hid (hD.st _ ((wr.alloc (.cells #[.int .u8 (k : Int)] 5)).alloc (.cells #[.int .u8 (k : Int)] 5)).drew hst (((Chg.refl _ wr).alloc _).alloc _).drew)
      have HXA := Lib.hid (HX.out.below ((Below.refl wr.heap.size wr).alloc (Nat.le_refl _) (.cells #[.int .u8 (k : Int)] 5)).drew)
      have HXB := Lib.hid (HX.out.below (((Below.refl wr.heap.size wr).alloc (Nat.le_refl _) (.cells #[.int .u8 (k : Int)] 5)).alloc (by simp) (.cells #[.int .u8 (k : Int)] 5)).drew)
      clear hst hD hT
      go_upto_region 29 with fail
      go_region_held (fun w' => w'.cell? ⟨w.heap.size, 4, none⟩ = some (.bool flag) ∧ w'.cell? ⟨w.heap.size, 5, none⟩ = some (.string ⟨s.toArray⟩))
        (first
          | exact ⟨HX.out.cells.2.2.2.2.1, HX.out.cells.2.2.2.2.2.1⟩
          | exact ⟨HXA.out.cells.2.2.2.2.1, HXA.out.cells.2.2.2.2.2.1⟩
          | exact ⟨HXB.out.cells.2.2.2.2.1, HXB.out.cells.2.2.2.2.2.1⟩
          | exact ⟨HX3.out.cells.2.2.2.2.1, HX3.out.cells.2.2.2.2.2.1⟩
          | exact ⟨HX3A.out.cells.2.2.2.2.1, HX3A.out.cells.2.2.2.2.2.1⟩
          | exact ⟨HX5.out.cells.2.2.2.2.1, HX5.out.cells.2.2.2.2.2.1⟩)
        (first
          | (go_at_call 42; refine (HD.out.a _ (by first | with_reducible exact HSA.out | with_reducible exact HSB.out)).mono ?_; rintro e w3 ⟨rfl, hm3, hk3⟩
             have HX3 : Hid (Bx w3 w.heap.size ⟨who, 7, i, j, flag, s, big⟩) := Lib.hid (by first | with_reducible exact HXA.out.keeps hk3 | with_reducible exact HXB.out.keeps hk3)
             have HX3A := Lib.hid (HX3.out.below ((Below.refl w3.heap.size w3).alloc (Nat.le_refl _) (.cells #[.int .u8 (k : Int)] 5)))
             have HM3A := Lib.hid (HD.out.md _ (w3.alloc (.cells #[.int .u8 (k : Int)] 5)) hm3 ((Chg.refl _ w3).alloc _))
             have HM3 := Lib.hid hm3
             first
               | (have hcA := byte_at (w := ((wr.alloc (.cells #[.int .u8 (k : Int)] 5)).alloc (.cells #[.int .u8 (k : Int)] 5)).drew) (k := (k : Int)) hk3 (heap_two wr (.cells #[.int .u8 (k : Int)] 5)).1
                  have hcB := byte_at (w := ((wr.alloc (.cells #[.int .u8 (k : Int)] 5)).alloc (.cells #[.int .u8 (k : Int)] 5)).drew) (k := (k : Int)) hk3 (heap_two wr (.cells #[.int .u8 (k : Int)] 5)).2
                  skip)
               | skip
             clear hm3 hk3)
          | (go_at_call 11; refine (HD.out.b _ (by first | with_reducible exact HM3.out | with_reducible exact HM3A.out)).mono ?_; rintro e w5 ⟨rfl, hm5, hk5⟩
             have HX5 : Hid (Bx w5 w.heap.size ⟨who, 7, i, j, flag, s, big⟩) := Lib.hid (by first | with_reducible exact HX3.out.keeps hk5 | with_reducible exact HX3A.out.keeps hk5)
             have HM5 := Lib.hid hm5
             clear hm5 hk5))
      all_goals
        go_wp2_with fail
        go_roundw
        case rel => exact ⟨k + 1, by omega, by go_num, HM5, HX5⟩
        case measure => simp [intOf]; omega
    · obtain rfl : k = N := by omega
      go_wp2_with fail
      go_ret
      exact ⟨rfl, HS.out⟩
end Go.Proofs.Ytefoieloakfhfaa
