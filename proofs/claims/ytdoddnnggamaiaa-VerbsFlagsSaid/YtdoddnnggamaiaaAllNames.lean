/- The program's Names: all names of its table. -/
import Derived.Test.YtdoddnnggamaiaaNames
namespace Pantry.Verbs
def names (l : List Row) : List (List UInt8) := l.map (·.name)
/-- The names of the first k pieces. -/
def upto (k : Nat) : List Row := ([one, two, three].take k).flatMap id
theorem upto_three : upto 3 = all := rfl
theorem names_append (a b : List Row) : names (a ++ b) = names a ++ names b := by simp [names]
theorem names_take {l : List Row} {j : Nat} {r : Row} (h : l[j]? = some r) : names (l.take (j + 1)) = names (l.take j) ++ [r.name] := by
  obtain ⟨hj, rfl⟩ := List.getElem?_eq_some_iff.1 h
  rw [List.take_succ_eq_append_getElem hj, names_append]
  rfl
theorem names_length (l : List Row) : (names l).length = l.length := by simp [names]
end Pantry.Verbs
namespace Go.Proofs.Ytdoddnnggamaiaa
open Go.RowKit Pantry

theorem parts_indexK (a b c : Value) (w : World) : ∀ k : Nat, k < 3 → (Instr.index 50 (.agg #[a, b, c]) (.int .i64 (k : Int))).run Try.prog w = .ok ([a, b, c].getD k a) w
  | 0, _ => parts_index0 a b c w
  | 1, _ => parts_index1 a b c w
  | 2, _ => parts_index2 a b c w

/-- A piece of the table, by its number. -/
theorem part_at {w : World} {B g1 g2 g3 : Nat} (h1 : B ≤ g1) (h2 : B ≤ g2) (h3 : B ≤ g3) (hg1 : w.heap[g1]? = some (.cells (tabCells Verbs.one).toArray 29)) (hg2 : w.heap[g2]? = some (.cells (tabCells Verbs.two).toArray 29)) (hg3 : w.heap[g3]? = some (.cells (tabCells Verbs.three).toArray 29)) :
    ∀ k : Nat, k < 3 → ∃ g n l, (∀ w', (Instr.index 50 (.agg #[.slice (some ⟨g1, 0, none⟩) 40 40, .slice (some ⟨g2, 0, none⟩) 40 40, .slice (some ⟨g3, 0, none⟩) 33 33]) (.int .i64 (k : Int))).run Try.prog w' = .ok (.slice (some ⟨g, 0, none⟩) n n) w') ∧
      B ≤ g ∧ w.heap[g]? = some (.cells (tabCells l).toArray 29) ∧ l.length = n ∧ n ≤ 40 ∧ Verbs.upto (k + 1) = Verbs.upto k ++ l ∧ (Verbs.upto k).length ≤ 80
  | 0, h => ⟨g1, 40, Verbs.one, fun w' => parts_indexK _ _ _ w' 0 h, h1, hg1, rfl, by omega, rfl, by decide⟩
  | 1, h => ⟨g2, 40, Verbs.two, fun w' => parts_indexK _ _ _ w' 1 h, h2, hg2, rfl, by omega, rfl, by decide⟩
  | 2, h => ⟨g3, 33, Verbs.three, fun w' => parts_indexK _ _ _ w' 2 h, h3, hg3, rfl, by omega, rfl, by decide⟩

/-- It returns texts in a row of its own. -/
def TextsPost (l : List (List UInt8)) (w : World) (e : Ending) (w' : World) : Prop :=
  ∃ v, e = .returned v ∧ w'.ownsRow w.heap.size 9 1 v l.length (txts l) ∧ Below w.heap.size w w'
/-- The names told so far. -/
def Told (B : Nat) (l : List Verbs.Row) (v : Value) (w : World) : Prop := w.ownsRow B 9 1 v (Verbs.names l).length (txts (Verbs.names l))

set_option maxHeartbeats 2000000 in
set_option maxRecDepth 100000 in
theorem names_any (w : World) : Calls Try.prog 20 #[] w (TextsPost (Verbs.names Verbs.all) w) := by
  go_enter Try.func20, Try.ntmps20
  go_wp2_with fail
  refine (parts_any _).mono ?_
  rintro e w1 ⟨g1, g2, g3, rfl, h1, h2, h3, hg1, hg2, hg3, hb1⟩
  have HP := Lib.hid (part_at h1 h2 h3 hg1 hg2 hg3)
  clear h1 h2 h3 hg1 hg2 hg3
  go_wp2_with fail
  go_loopw [1, 7] (fun v i wr => ∃ k : Nat, k ≤ 3 ∧ i = .int .i64 k ∧ Told w1.heap.size (Verbs.upto k) v wr ∧ Below w1.heap.size w1 wr) (fun _ i _ => 3 - (intOf i).toNat)
  case atStart => exact ⟨0, by omega, rfl, World.ownsRow_nil _ _ _ _, Below.refl _ _⟩
  case round =>
    obtain ⟨k, hk, rfl, hown, hb⟩ := hrel
    by_cases hlt : k < 3
    · obtain ⟨g, n, l, hidx, hg1, hg, hln, hn40, hup, hupl⟩ := HP.out k hlt
      have hgl := (Array.getElem?_eq_some_iff.1 hg).1
      have HT := Lib.hid hup
      have HL := Lib.hid hln
      have HG := Lib.hid hg
      have HU := Lib.hid hupl
      clear hup hln hg hupl
      have hd : decide ((k : Int) < 3) = true := decide_eq_true (by omega)
      go_wp2
      go_loopw [1, 12] (fun v j wx => ∃ m : Nat, m ≤ n ∧ j = .int .i64 m ∧ Told w1.heap.size (Verbs.upto k ++ l.take m) v wx ∧ Below w1.heap.size w1 wx) (fun _ j _ => n - (intOf j).toNat)
      case atStart => exact ⟨0, by omega, rfl, by rw [List.take_zero, List.append_nil]; exact hown, hb⟩
      case round =>
        obtain ⟨m, hm, rfl, hown, hb⟩ := hrel
        by_cases hlt2 : m < n
        · obtain ⟨r, hr⟩ : ∃ r, l[m]? = some r := ⟨_, List.getElem?_eq_getElem (by rw [HL.out]; exact hlt2)⟩
          obtain ⟨c0, c1, c2, c3, c4, c5⟩ := tab_cells ((hb.block g hgl).trans HG.out) hr
          have hbs := hb.size
          have HR := Lib.hid (Verbs.names_take hr)
          have hlen : (Verbs.names (Verbs.upto k ++ l.take m)).length ≤ 120 := by
            rw [Verbs.names_length, List.length_append, List.length_take]
            have := HU.out
            omega
          clear hr
          unfold Told at hown
          go_wp2_with (at_builtin; (refine wpl_append1_at Try.textsT rfl _ _ rfl w1.heap.size rfl (World.ownsRow.alloc hown _) #[.string ⟨r.name.toArray⟩] rfl (by simp) rfl (by simp [Value.oneCell']) (by omega) (by simp; omega) ?_); intro v2 w2 hown2 hgrow2 hb2 hfr2)
          have ht : Told w1.heap.size (Verbs.upto k ++ l.take (m + 1)) v2 w2 := by
            rw [Told, Verbs.names_append, HR.out, ← List.append_assoc, ← Verbs.names_append, ← txts_snoc, List.length_append]
            exact hown2
          have hb3 := (hb.alloc hbs _).trans hb2
          clear hown2 hgrow2 hb2 hfr2
          go_roundw
          case rel => exact ⟨m + 1, by omega, by go_num, ht, hb3⟩
          case measure => simp [intOf]; omega
        · have HF := Lib.hid (show Verbs.upto k ++ l.take m = Verbs.upto (k + 1) by rw [HT.out, List.take_of_length_le (by rw [HL.out]; omega)])
          go_wp2
          go_roundw
          case rel => exact ⟨k + 1, by omega, by go_num, by rw [← HF.out]; exact hown, hb⟩
          case measure => simp [intOf]; omega
    · obtain rfl : k = 3 := by omega
      have hbs := hb1.size
      go_wp2
      go_ret
      exact ⟨_, rfl, ownsRow_base hown hbs, hb1.trans (hb.mono hbs)⟩
end Go.Proofs.Ytdoddnnggamaiaa
