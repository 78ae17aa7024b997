/- The search in a rising table. -/
import Derived.Test.YtdoddnnggamaiaaTabA
import Derived.Test.YtdoddnnggamaiaaShelf
import Derived.Test.YtdoddnnggamaiaaOrder
namespace Go.Proofs.Ytdoddnnggamaiaa
open Go.RowKit Pantry
set_option maxHeartbeats 400000 in
theorem find1_any (r : Verbs.Row) (s : ByteArray) (w : World) : Calls Try.prog 32 #[.agg (rowCells r).toArray, .string s] w fun e w' => e = .returned (.int .i64 (cmpB r.name s.data.toList)) ∧ Below w.heap.size w w' := by
  unfold rowCells
  go_enter Try.func32, Try.ntmps32
  go_wp2_with fail
  refine (Try.strings_Compare _ _ _).mono ?_
  rintro e w' ⟨rfl, rfl⟩
  go_wp2
  go_ret
  exact ⟨rfl, (Below.refl _ _).alloc (Nat.le_refl _) _⟩

/-- What the search returns. -/
def SearchPost (l : List Verbs.Row) (s : List UInt8) (w : World) (e : Ending) (w' : World) : Prop :=
  ∃ (i : Nat) (ok : Bool), e = .returned (.tuple #[.int .i64 i, .bool ok]) ∧ Verbs.Found l s i ok ∧ Below w.heap.size w w'

set_option maxHeartbeats 1000000 in
theorem search_any (g : Nat) (l : List Verbs.Row) (n : Nat) (s : ByteArray) (w : World) (hn : l.length = n) (hm : n ≤ 1000) (hris : Verbs.Rising l) (hg : w.heap[g]? = some (.cells (tabCells l).toArray 29)) :
    Calls Try.prog 31 #[.slice (some ⟨g, 0, none⟩) n n, .string s, .func (.func 32) #[] #[]] w (SearchPost l s.data.toList w) := by
  have HN := Lib.hid hn
  clear hn
  have hgl : g < w.heap.size := by
    have := (Array.getElem?_eq_some_iff.1 hg).1
    exact this
  go_enter Try.func31, Try.ntmps31
  go_wp2
  go_loopw [9, 10] (fun i j wr => ∃ a b : Nat, a ≤ b ∧ b ≤ n ∧ i = .int .i64 a ∧ j = .int .i64 b ∧ Below w.heap.size w wr ∧ wr.heap[g]? = some (.cells (tabCells l).toArray 29) ∧ Verbs.Lo l s.data.toList a ∧ Verbs.Hi l s.data.toList b) (fun i j _ => (intOf j - intOf i).toNat)
  case atStart => exact ⟨0, n, by omega, by omega, rfl, rfl, Below.refl _ _, hg, Verbs.Lo.zero _ _, Verbs.Hi.all HN.out⟩
  case round =>
    obtain ⟨a, b, hab, hbn, rfl, rfl, hb, hg1, hlo, hhi⟩ := hrel
    by_cases hlt : a < b
    · obtain ⟨r, hr⟩ : ∃ r, l[(a + b) / 2]? = some r := ⟨l[(a + b) / 2]'(by have := HN.out; omega), List.getElem?_eq_getElem _⟩
      obtain ⟨c0, c1, c2, c3, c4, c5⟩ := tab_cells hg1 hr
      have HG := Lib.hid hg1
      have HR := Lib.hid hr
      clear hg1 hr hg
      have hsz := hb.size
      go_wp2_with fail
      refine (find1_any r s wr).mono ?_
      rintro e w1 ⟨rfl, hb1⟩
      have hb2 : Below w.heap.size w w1 := hb.trans (hb1.mono hsz)
      have HG2 := Lib.hid ((hb1.block g (by omega)).trans HG.out)
      by_cases hc : cmpB r.name s.data.toList < 0
      · go_wp2
        go_roundw
        case rel => exact ⟨(a + b) / 2 + 1, b, by omega, hbn, by go_num, rfl, hb2, HG2.out, Verbs.Lo.step hris HR.out hc, hhi⟩
        case measure => simp [intOf]; omega
      · go_wp2
        go_roundw
        case rel => exact ⟨a, (a + b) / 2, by omega, by omega, rfl, by go_num, hb2, HG2.out, hlo, Verbs.Hi.step hris HR.out (Int.not_lt.2 hc)⟩
        case measure => simp [intOf]; omega
    · obtain rfl : a = b := by omega
      by_cases han : a < n
      · obtain ⟨r, hr⟩ : ∃ r, l[a]? = some r := ⟨l[a]'(by have := HN.out; omega), List.getElem?_eq_getElem _⟩
        obtain ⟨c0, c1, c2, c3, c4, c5⟩ := tab_cells hg1 hr
        have HG := Lib.hid hg1
        have HR := Lib.hid hr
        clear hg1 hr hg hlt
        have hsz := hb.size
        go_wp2_with fail
        refine (find1_any r s wr).mono ?_
        rintro e w1 ⟨rfl, hb1⟩
        have hb2 : Below w.heap.size w w1 := hb.trans (hb1.mono hsz)
        by_cases hc : cmpB r.name s.data.toList = 0
        · have hc' : (cmpB r.name s.data.toList == 0) = true := by simp [hc]
          have HC := Lib.hid hc
          clear hc
          go_wp2
          go_ret2
          exact ⟨a, true, rfl, Verbs.Found.yes HR.out HC.out, hb2⟩
        · have hc' : (cmpB r.name s.data.toList == 0) = false := by simp [hc]
          have HC := Lib.hid hc
          clear hc
          go_wp2
          go_ret2
          exact ⟨a, false, rfl, Verbs.Found.no hris hlo hhi HR.out HC.out, hb2⟩
      · clear hg hg1
        go_wp2
        go_ret2
        exact ⟨a, false, rfl, Verbs.Found.at_end HN.out hlo han, hb⟩
end Go.Proofs.Ytdoddnnggamaiaa
