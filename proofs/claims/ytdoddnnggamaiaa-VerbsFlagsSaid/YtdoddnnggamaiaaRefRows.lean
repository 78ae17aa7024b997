/- The document's Rows. -/
import Derived.Test.YtdoddnnggamaiaaTable
import Derived.Test.YtdoddnnggamaiaaRegion
namespace Go.Proofs.Ytdoddnnggamaiaa
open Go.RowKit Pantry
theorem Try.verbsT : ElemT Try.prog 38 29 6 56 (.agg #[.string ByteArray.empty, .int .i64 0, .int .i64 0, .int .i64 0, .int .i64 0, .int .i64 0]) := ⟨Try.underlying38, by kernel_rfl, rfl, by decide, by decide⟩

theorem number_w (l : List UInt8) (w : World) (hok : NumOk l) : Calls Try.prog 35 #[.string ⟨l.toArray⟩] w fun e w' => e = .returned (.int .i64 (numB l)) ∧ w' = w :=
  (number_any ⟨l.toArray⟩ w (by simpa using hok)).mono fun e w' h => by obtain ⟨h1, h2⟩ := h; exact ⟨by simpa using h1, h2.symm⟩

theorem getD_some {α : Type} {l : List α} {k : Nat} {d x : α} (h : l[k]? = some x) : l.getD k d = x := by rw [List.getD_eq_getElem?_getD, h]; rfl

/-- The block g is not the value's. -/
def NotIn (v : Value) (g : Nat) : Prop := ∀ b, v.ownBlock = some b → b ≠ g
/-- The rows of lines. -/
def rowsOf (D : List (List UInt8)) : List Verbs.Row := D.flatMap fun l => Verbs.lineRows (cutB 32 l)
/-- What is done, and what is begun, k signs into the table. -/
def DK (k : Nat) : List (List UInt8) := (cutAt 10 ((Verbs.tableL ++ [10]).take k)).1
def CK (k : Nat) : List UInt8 := (cutAt 10 ((Verbs.tableL ++ [10]).take k)).2

theorem tableB_size : Verbs.tableB.size = 1200 := Verbs.tableL_length
theorem table_get {k : Nat} (h : k < Verbs.tableB.size) : (Verbs.tableL ++ [10])[k]? = some Verbs.tableB[k] := by
  have h' : k < Verbs.tableL.length := by rw [Verbs.tableL_length, ← tableB_size]; exact h
  rw [List.getElem?_append_left h', List.getElem?_eq_getElem h']
  rfl
theorem append_end {α : Type} {l : List α} {x : α} {n : Nat} (h : l.length = n) : (l ++ [x])[n]? = some x := by subst h; simp
theorem table_end : (Verbs.tableL ++ [10])[1200]? = some 10 := append_end Verbs.tableL_length
theorem DK_sep {k : Nat} (h : (Verbs.tableL ++ [10])[k]? = some 10) : DK (k + 1) = DK k ++ [CK k] ∧ CK (k + 1) = [] := by
  have := cutAt_take 10 _ h
  unfold DK CK
  rw [this, cutStep, if_pos rfl]
  exact ⟨rfl, rfl⟩
theorem DK_other {k : Nat} {b : UInt8} (h : (Verbs.tableL ++ [10])[k]? = some b) (hb : b ≠ 10) : DK (k + 1) = DK k ∧ CK (k + 1) = CK k ++ [b] := by
  have := cutAt_take 10 _ h
  unfold DK CK
  rw [this, cutStep, if_neg hb]
  exact ⟨rfl, rfl⟩
theorem CK_ok {k : Nat} (h : (Verbs.tableL ++ [10])[k]? = some 10) : Verbs.LineOk (cutB 32 (CK k)) := by
  obtain ⟨r, hr⟩ := cutAt_mono 10 (Verbs.tableL ++ [10]) (k + 1)
  apply Verbs.lines_ok
  have : cutB 10 Verbs.tableL = DK (k + 1) ++ r := hr
  rw [this, (DK_sep h).1]
  simp
set_option maxRecDepth 10000 in
theorem DK_end : rowsOf (DK 1201) = Verbs.refRows := by
  have : DK 1201 = cutB 10 Verbs.tableL := by
    unfold DK cutB
    rw [List.take_of_length_le (by rw [List.length_append, Verbs.tableL_length]; decide)]
  rw [rowsOf, this]
  rfl
theorem rowsOf_snoc (D : List (List UInt8)) (l : List UInt8) : rowsOf (D ++ [l]) = rowsOf D ++ Verbs.lineRows (cutB 32 l) := by simp [rowsOf]
theorem tabCells_append (a b : List Verbs.Row) : tabCells (a ++ b) = tabCells a ++ tabCells b := by simp [tabCells]
theorem DK_rows (k : Nat) : (rowsOf (DK k)).length ≤ 113 := by
  obtain ⟨r, hr⟩ := cutAt_mono 10 (Verbs.tableL ++ [10]) k
  have h1 : Verbs.refRows = rowsOf (DK k) ++ rowsOf r := by
    have : cutB 10 Verbs.tableL = DK k ++ r := hr
    unfold Verbs.refRows
    rw [this]
    simp [rowsOf]
  have h2 := Verbs.refRows_length
  rw [h1, List.length_append] at h2
  omega
theorem lineRows_take {ws : List (List UInt8)} {j : Nat} {x : List UInt8} (h5 : 5 ≤ j) (hx : ws[j]? = some x) :
    (Verbs.lineRows ws).take (j + 1 - 5) = (Verbs.lineRows ws).take (j - 5) ++ [⟨x, numB (ws.getD 0 []), numB (ws.getD 1 []), numB (ws.getD 2 []), numB (ws.getD 3 []), numB (ws.getD 4 [])⟩] := by
  have hj := (List.getElem?_eq_some_iff.1 hx).1
  rw [show j + 1 - 5 = (j - 5) + 1 by omega, List.take_add_one, Verbs.lineRows, List.getElem?_map, List.getElem?_drop, show 5 + (j - 5) = j by omega, hx]
  rfl
theorem mem_take5 {l : List (List UInt8)} {i : Nat} {x : List UInt8} (h : l[i]? = some x) (hi : i < 5) : x ∈ l.take 5 :=
  List.mem_of_getElem? (i := i) (by rw [List.getElem?_take, if_pos hi]; exact h)
theorem extract_line {fr k : Nat} : (Verbs.tableB.extract fr k).data.toList = (Verbs.tableL.take k).drop fr := by
  rw [extract_list]; rfl

def RefRowsPost (w : World) (e : Ending) (w' : World) : Prop := ∃ v, e = .returned v ∧ w'.ownsRow w.heap.size 29 6 v 113 (tabCells Verbs.refRows) ∧ Below w.heap.size w w'

set_option maxHeartbeats 4000000 in
set_option maxRecDepth 100000 in
theorem refRows_any (w : World) : Calls Try.prog 23 #[] w (RefRowsPost w) := by
  go_enter Try.func23, Try.ntmps23
  rw [Verbs.tableB_eq]
  have hsize : Verbs.tableB.size = 1200 := Verbs.tableL_length
  go_wp2
  go_loopw [1, 2, 3] (fun v fr i wr => ∃ k from_ : Nat, k ≤ 1201 ∧ from_ ≤ k ∧ i = .int .i64 k ∧ fr = .int .i64 from_ ∧ wr.ownsRow w.heap.size 29 6 v (rowsOf (DK k)).length (tabCells (rowsOf (DK k))) ∧ CK k = (Verbs.tableL.take k).drop from_ ∧ Below w.heap.size w wr) (fun _ _ i _ => 1201 - (intOf i).toNat)
  case atStart => exact ⟨0, 0, by omega, by omega, rfl, rfl, World.ownsRow_nil _ _ _ _, rfl, Below.refl _ _⟩
  case round =>
    obtain ⟨k, fr, hk, hfk, rfl, rfl, hown, hC, hb⟩ := hrel
    by_cases hsep : (Verbs.tableL ++ [10])[k]? = some 10
    · have hok := CK_ok hsep
      have HD := Lib.hid (DK_sep hsep).1
      have HC2 := Lib.hid (DK_sep hsep).2
      have hk2 : k < 1200 ∧ (∀ h : k < Verbs.tableB.size, (((Verbs.tableB[k]).toNat : Int) != 10) = false) ∨ k = 1200 := by
        by_cases hlt : k < 1200
        · refine .inl ⟨hlt, fun h => ?_⟩
          rw [table_get h] at hsep
          rw [Option.some.inj hsep]; rfl
        · refine .inr ?_
          have := (List.getElem?_eq_some_iff.1 hsep).1
          rw [List.length_append, Verbs.tableL_length] at this
          simp at this
          omega
      have HC := Lib.hid hC
      have hsz := hb.size
      have HO := Lib.hid hok
      clear hsep hC hok
      have HB := Lib.hid (DK_rows (k + 1))
      rcases hk2 with ⟨hlt, hte⟩ | hk12
      · have ht := hte (by rw [hsize]; exact hlt)
        clear hte
        go_wp2_with fail
        refine (words_any (Verbs.tableB.extract fr k) wr (by simp; omega)).mono ?_
        rintro e w1 ⟨u, rfl, hown1, hb1⟩
        rw [extract_line, ← HC.out] at hown1
        obtain ⟨ws, hws⟩ : ∃ ws, cutB 32 (CK k) = ws := ⟨_, rfl⟩
        rw [hws] at hown1
        have hok2 := HO.out
        rw [hws] at hok2
        have HW := Lib.hid hws
        clear hws
        obtain ⟨hw5, hw100, hnum⟩ := hok2
        obtain ⟨g, cap, rfl, hgr⟩ : ∃ g cap, u = .slice (some ⟨g, 0, none⟩) ws.length cap ∧ wr.heap.size ≤ g := by
          rcases hown1.2 with ⟨_, h0⟩ | ⟨g, cap, cur, rfl, hg, _⟩
          · omega
          · exact ⟨g, cap, rfl, hg⟩
        have hrow := TRow.of_own hown1
        have hownv := ownsRow_belowAll hown hb1
        have hvb : ∀ b, u1.ownBlock = some b → b ≠ g := fun b hb => by have := (hown.lt b hb).2; omega
        have hbw := hb.trans (hb1.mono hsz)
        clear hown hown1 hb1
        have e0 := List.getElem?_eq_getElem (l := ws) (i := 0) (by omega)
        have e1 := List.getElem?_eq_getElem (l := ws) (i := 1) (by omega)
        have e2 := List.getElem?_eq_getElem (l := ws) (i := 2) (by omega)
        have e3 := List.getElem?_eq_getElem (l := ws) (i := 3) (by omega)
        have e4 := List.getElem?_eq_getElem (l := ws) (i := 4) (by omega)
        go_wp2
        go_loopw [1, 5] (fun v j wx => ∃ m : Nat, 5 ≤ m ∧ m ≤ ws.length ∧ j = .int .i64 m ∧ wx.ownsRow w.heap.size 29 6 v (rowsOf (DK k) ++ (Verbs.lineRows ws).take (m - 5)).length (tabCells (rowsOf (DK k) ++ (Verbs.lineRows ws).take (m - 5))) ∧ TRow wx g ws ∧ NotIn v g ∧ Below w.heap.size w wx) (fun _ j _ => ws.length - (intOf j).toNat)
        case atStart => exact ⟨5, by omega, by omega, rfl, by simpa using hownv, hrow, hvb, hbw⟩
        case round =>
          obtain ⟨m, hm5, hml, rfl, hown, hrow, hni, hbx⟩ := hrel
          by_cases hlt2 : m < ws.length
          · obtain ⟨x, hx⟩ : ∃ x, ws[m]? = some x := ⟨_, List.getElem?_eq_getElem hlt2⟩
            have rm := hrow m x hx
            have r0 := hrow 0 _ e0
            have r1 := hrow 1 _ e1
            have r2 := hrow 2 _ e2
            have r3 := hrow 3 _ e3
            have r4 := hrow 4 _ e4
            have hlen : (rowsOf (DK k) ++ (Verbs.lineRows ws).take (m - 5)).length ≤ 113 := by
              have h1 := HB.out
              rw [HD.out, rowsOf_snoc, HW.out, List.length_append] at h1
              rw [List.length_append, List.length_take]
              omega
            have q0 : NumOk ws[0] := hnum _ (mem_take5 e0 (by omega))
            have q1 : NumOk ws[1] := hnum _ (mem_take5 e1 (by omega))
            have q2 : NumOk ws[2] := hnum _ (mem_take5 e2 (by omega))
            have q3 : NumOk ws[3] := hnum _ (mem_take5 e3 (by omega))
            have q4 : NumOk ws[4] := hnum _ (mem_take5 e4 (by omega))
            have hgl := TRow.lt hrow (by omega)
            have hbxs := hbx.size
            have i0 : (0 : Int) ≤ (m : Int) := Int.natCast_nonneg _
            have i1 : (m : Int) < (ws.length : Int) := by omega
            have j0 : (0 : Int) < (ws.length : Int) := by omega
            have j00 : 0 < ws.length := by omega
            have j1 : (1 : Int) < (ws.length : Int) := by omega
            have j2 : (2 : Int) < (ws.length : Int) := by omega
            have j3 : (3 : Int) < (ws.length : Int) := by omega
            have j4 : (4 : Int) < (ws.length : Int) := by omega
            go_wp2_with fail
            go_region_held3 (fun w' => w'.cell? ⟨g, m, none⟩ = some (.string ⟨x.toArray⟩) ∧ w'.cell? ⟨g, 0, none⟩ = some (.string ⟨ws[0].toArray⟩) ∧ w'.cell? ⟨g, 1, none⟩ = some (.string ⟨ws[1].toArray⟩) ∧ w'.cell? ⟨g, 2, none⟩ = some (.string ⟨ws[2].toArray⟩) ∧ w'.cell? ⟨g, 3, none⟩ = some (.string ⟨ws[3].toArray⟩) ∧ w'.cell? ⟨g, 4, none⟩ = some (.string ⟨ws[4].toArray⟩))
              (first
                | go_keep
                | (have hrw2 : TRow w2 g ws := hrow.of_block (hgrow2.block g hgl (fun e => hni g e.symm rfl)); exact ⟨hrw2 m x hx, hrw2 0 _ e0, hrw2 1 _ e1, hrw2 2 _ e2, hrw2 3 _ e3, hrw2 4 _ e4⟩))
              (first
                | (go_at_call 35; refine (number_w _ _ (by assumption)).mono ?_; rintro e w' ⟨rfl, rfl⟩)
                | (refine step_append1 Try.verbsT (by rfl) _ _ (by rfl) w.heap.size (by rfl) hown #[.string ⟨x.toArray⟩, .int .i64 (numB ws[0]), .int .i64 (numB ws[1]), .int .i64 (numB ws[2]), .int .i64 (numB ws[3]), .int .i64 (numB ws[4])] (by rfl) (by rfl) (by simp [Value.oneCell']) (by omega) hbxs ?_; intro v2 w2 hown2 hgrow2 hb2 hfr2))
            have hrw2 : TRow w2 g ws := hrow.of_block (hgrow2.block g hgl (fun e => hni g e.symm rfl))
            have hni2 : NotIn v2 g := fun b hb => by
              rcases hfr2 b hb with h | h
              · exact hni b h
              · omega
            have hbx2 := hbx.trans hb2
            have e5 := getD_some (d := []) e0
            have e6 := getD_some (d := []) e1
            have e7 := getD_some (d := []) e2
            have e8 := getD_some (d := []) e3
            have e9 := getD_some (d := []) e4
            have hlr := lineRows_take hm5 hx
            rw [e5, e6, e7, e8, e9] at hlr
            have HLR := Lib.hid hlr
            clear hlr e5 e6 e7 e8 e9 hgrow2 hfr2 hown r0 r1 r2 r3 r4 rm e0 e1 e2 e3 e4 hb2 hrow hni
            go_wp2
            go_roundw
            case rel => exact ⟨m + 1, by omega, by omega, by go_num, by rw [HLR.out, ← List.append_assoc, List.length_append, tabCells_append]; exact hown2, hrw2, hni2, hbx2⟩
            case measure => simp [intOf]; omega
          · obtain rfl : m = ws.length := by omega
            have HF := Lib.hid (show rowsOf (DK k) ++ (Verbs.lineRows ws).take (ws.length - 5) = rowsOf (DK (k + 1)) by
              rw [HD.out, rowsOf_snoc, HW.out, List.take_of_length_le (by simp [Verbs.lineRows])])
            clear e0 e1 e2 e3 e4 hrow hni
            go_wp2
            go_roundw
            case rel => exact ⟨k + 1, k + 1, by omega, Nat.le_refl _, by go_num, by go_num, by rw [HF.out] at hown; exact hown, by rw [HC2.out, List.drop_eq_nil_of_le (by simp; omega)], hbx⟩
            case measure => simp [intOf]; omega
      · have hnl : ¬ k < 1200 := by omega
        have hle : k ≤ 1200 := by omega
        clear hk12
        go_wp2_with fail
        refine (words_any (Verbs.tableB.extract fr k) wr (by simp; omega)).mono ?_
        rintro e w1 ⟨u, rfl, hown1, hb1⟩
        rw [extract_line, ← HC.out] at hown1
        obtain ⟨ws, hws⟩ : ∃ ws, cutB 32 (CK k) = ws := ⟨_, rfl⟩
        rw [hws] at hown1
        have hok2 := HO.out
        rw [hws] at hok2
        have HW := Lib.hid hws
        clear hws
        obtain ⟨hw5, hw100, hnum⟩ := hok2
        obtain ⟨g, cap, rfl, hgr⟩ : ∃ g cap, u = .slice (some ⟨g, 0, none⟩) ws.length cap ∧ wr.heap.size ≤ g := by
          rcases hown1.2 with ⟨_, h0⟩ | ⟨g, cap, cur, rfl, hg, _⟩
          · omega
          · exact ⟨g, cap, rfl, hg⟩
        have hrow := TRow.of_own hown1
        have hownv := ownsRow_belowAll hown hb1
        have hvb : ∀ b, u1.ownBlock = some b → b ≠ g := fun b hb => by have := (hown.lt b hb).2; omega
        have hbw := hb.trans (hb1.mono hsz)
        clear hown hown1 hb1
        have e0 := List.getElem?_eq_getElem (l := ws) (i := 0) (by omega)
        have e1 := List.getElem?_eq_getElem (l := ws) (i := 1) (by omega)
        have e2 := List.getElem?_eq_getElem (l := ws) (i := 2) (by omega)
        have e3 := List.getElem?_eq_getElem (l := ws) (i := 3) (by omega)
        have e4 := List.getElem?_eq_getElem (l := ws) (i := 4) (by omega)
        go_wp2
        go_loopw [1, 5] (fun v j wx => ∃ m : Nat, 5 ≤ m ∧ m ≤ ws.length ∧ j = .int .i64 m ∧ wx.ownsRow w.heap.size 29 6 v (rowsOf (DK k) ++ (Verbs.lineRows ws).take (m - 5)).length (tabCells (rowsOf (DK k) ++ (Verbs.lineRows ws).take (m - 5))) ∧ TRow wx g ws ∧ NotIn v g ∧ Below w.heap.size w wx) (fun _ j _ => ws.length - (intOf j).toNat)
        case atStart => exact ⟨5, by omega, by omega, rfl, by simpa using hownv, hrow, hvb, hbw⟩
        case round =>
          obtain ⟨m, hm5, hml, rfl, hown, hrow, hni, hbx⟩ := hrel
          by_cases hlt2 : m < ws.length
          · obtain ⟨x, hx⟩ : ∃ x, ws[m]? = some x := ⟨_, List.getElem?_eq_getElem hlt2⟩
            have rm := hrow m x hx
            have r0 := hrow 0 _ e0
            have r1 := hrow 1 _ e1
            have r2 := hrow 2 _ e2
            have r3 := hrow 3 _ e3
            have r4 := hrow 4 _ e4
            have hlen : (rowsOf (DK k) ++ (Verbs.lineRows ws).take (m - 5)).length ≤ 113 := by
              have h1 := HB.out
              rw [HD.out, rowsOf_snoc, HW.out, List.length_append] at h1
              rw [List.length_append, List.length_take]
              omega
            have q0 : NumOk ws[0] := hnum _ (mem_take5 e0 (by omega))
            have q1 : NumOk ws[1] := hnum _ (mem_take5 e1 (by omega))
            have q2 : NumOk ws[2] := hnum _ (mem_take5 e2 (by omega))
            have q3 : NumOk ws[3] := hnum _ (mem_take5 e3 (by omega))
            have q4 : NumOk ws[4] := hnum _ (mem_take5 e4 (by omega))
            have hgl := TRow.lt hrow (by omega)
            have hbxs := hbx.size
            have i0 : (0 : Int) ≤ (m : Int) := Int.natCast_nonneg _
            have i1 : (m : Int) < (ws.length : Int) := by omega
            have j0 : (0 : Int) < (ws.length : Int) := by omega
            have j00 : 0 < ws.length := by omega
            have j1 : (1 : Int) < (ws.length : Int) := by omega
            have j2 : (2 : Int) < (ws.length : Int) := by omega
            have j3 : (3 : Int) < (ws.length : Int) := by omega
            have j4 : (4 : Int) < (ws.length : Int) := by omega
            go_wp2_with fail
            go_region_held3 (fun w' => w'.cell? ⟨g, m, none⟩ = some (.string ⟨x.toArray⟩) ∧ w'.cell? ⟨g, 0, none⟩ = some (.string ⟨ws[0].toArray⟩) ∧ w'.cell? ⟨g, 1, none⟩ = some (.string ⟨ws[1].toArray⟩) ∧ w'.cell? ⟨g, 2, none⟩ = some (.string ⟨ws[2].toArray⟩) ∧ w'.cell? ⟨g, 3, none⟩ = some (.string ⟨ws[3].toArray⟩) ∧ w'.cell? ⟨g, 4, none⟩ = some (.string ⟨ws[4].toArray⟩))
              (first
                | go_keep
                | (have hrw2 : TRow w2 g ws := hrow.of_block (hgrow2.block g hgl (fun e => hni g e.symm rfl)); exact ⟨hrw2 m x hx, hrw2 0 _ e0, hrw2 1 _ e1, hrw2 2 _ e2, hrw2 3 _ e3, hrw2 4 _ e4⟩))
              (first
                | (go_at_call 35; refine (number_w _ _ (by assumption)).mono ?_; rintro e w' ⟨rfl, rfl⟩)
                | (refine step_append1 Try.verbsT (by rfl) _ _ (by rfl) w.heap.size (by rfl) hown #[.string ⟨x.toArray⟩, .int .i64 (numB ws[0]), .int .i64 (numB ws[1]), .int .i64 (numB ws[2]), .int .i64 (numB ws[3]), .int .i64 (numB ws[4])] (by rfl) (by rfl) (by simp [Value.oneCell']) (by omega) hbxs ?_; intro v2 w2 hown2 hgrow2 hb2 hfr2))
            have hrw2 : TRow w2 g ws := hrow.of_block (hgrow2.block g hgl (fun e => hni g e.symm rfl))
            have hni2 : NotIn v2 g := fun b hb => by
              rcases hfr2 b hb with h | h
              · exact hni b h
              · omega
            have hbx2 := hbx.trans hb2
            have e5 := getD_some (d := []) e0
            have e6 := getD_some (d := []) e1
            have e7 := getD_some (d := []) e2
            have e8 := getD_some (d := []) e3
            have e9 := getD_some (d := []) e4
            have hlr := lineRows_take hm5 hx
            rw [e5, e6, e7, e8, e9] at hlr
            have HLR := Lib.hid hlr
            clear hlr e5 e6 e7 e8 e9 hgrow2 hfr2 hown r0 r1 r2 r3 r4 rm e0 e1 e2 e3 e4 hb2 hrow hni
            go_wp2
            go_roundw
            case rel => exact ⟨m + 1, by omega, by omega, by go_num, by rw [HLR.out, ← List.append_assoc, List.length_append, tabCells_append]; exact hown2, hrw2, hni2, hbx2⟩
            case measure => simp [intOf]; omega
          · obtain rfl : m = ws.length := by omega
            have HF := Lib.hid (show rowsOf (DK k) ++ (Verbs.lineRows ws).take (ws.length - 5) = rowsOf (DK (k + 1)) by
              rw [HD.out, rowsOf_snoc, HW.out, List.take_of_length_le (by simp [Verbs.lineRows])])
            clear e0 e1 e2 e3 e4 hrow hni
            go_wp2
            go_roundw
            case rel => exact ⟨k + 1, k + 1, by omega, Nat.le_refl _, by go_num, by go_num, by rw [HF.out] at hown; exact hown, by rw [HC2.out, List.drop_eq_nil_of_le (by simp; omega)], hbx⟩
            case measure => simp [intOf]; omega
    · by_cases hlt : k < 1200
      · have hk' : k < Verbs.tableB.size := by rw [hsize]; exact hlt
        have hg := table_get hk'
        have h10 : Verbs.tableB[k] ≠ 10 := fun h => hsep (by rw [hg, h])
        have ht : ((Verbs.tableB[k].toNat : Int) != 10) = true := by rw [bne_iff_ne]; intro h; apply h10; apply UInt8.toNat_inj.1; exact Int.ofNat.inj h
        obtain ⟨d1, d2⟩ := DK_other hg h10
        have HD := Lib.hid d1
        have hC2 : CK (k + 1) = (Verbs.tableL.take (k + 1)).drop fr := by
          have hkl : k < Verbs.tableL.length := by rw [Verbs.tableL_length]; exact hlt
          have hx : Verbs.tableL[k] = Verbs.tableB[k] := by
            rw [List.getElem?_append_left hkl, List.getElem?_eq_getElem hkl] at hg
            exact Option.some.inj hg
          rw [d2, hC, List.take_succ_eq_append_getElem hkl, List.drop_append_of_le_length (by simp; omega), hx]
          rfl
        have HC := Lib.hid hC2
        clear hC hC2 d1 d2 hg h10 hsep
        go_wp2
        go_roundw
        case rel => exact ⟨k + 1, fr, by omega, by omega, by go_num, rfl, by rw [HD.out]; exact hown, HC.out, hb⟩
        case measure => simp [intOf]; omega
      · have hk1 : k = 1201 := by
          rcases Nat.lt_or_ge k 1201 with h | h
          · exact absurd (by rw [show k = 1200 by omega]; exact table_end) hsep
          · omega
        have HE := Lib.hid (show rowsOf (DK k) = Verbs.refRows by rw [hk1]; exact DK_end)
        have hk2 : ¬ k ≤ 1200 := by omega
        clear hsep hk1 hC
        go_wp2
        go_ret
        exact ⟨u1, rfl, by rw [HE.out, Verbs.refRows_length] at hown; exact hown, hb⟩
end Go.Proofs.Ytdoddnnggamaiaa
