/- Texts taken out of a chunk: take. -/
import Derived.Test.YtefoieloakfhfaaZFind
namespace Pantry
def sumW (l : List Txt) : Nat := (l.map fun x : Txt => 16 + x.length).sum
theorem sumW_take {l : List Txt} {j : Nat} {x : Txt} (h : l[j]? = some x) : sumW (l.take (j + 1)) = sumW (l.take j) + (16 + x.length) := by
  rw [List.take_add_one, h]; simp [sumW]
theorem sumW_parts (c : List Txt) {a t : Nat} (h : a ≤ t) : sumW (c.take a ++ c.drop t) + sumW ((c.drop a).take (t - a)) = sumW c := by
  have e1 : c = c.take a ++ (c.drop a).take (t - a) ++ c.drop t := by
    have h1 : (c.drop a).take (t - a) ++ (c.drop a).drop (t - a) = c.drop a := List.take_append_drop _ _
    rw [List.drop_drop, show a + (t - a) = t by omega] at h1
    rw [List.append_assoc, h1, List.take_append_drop]
  have : sumW c = sumW (c.take a ++ (c.drop a).take (t - a) ++ c.drop t) := by rw [← e1]
  rw [this]
  simp [sumW]; omega
theorem sumW_append (a b : List Txt) : sumW (a ++ b) = sumW a + sumW b := by simp [sumW]
theorem sumW_le (c : List Txt) (j : Nat) : sumW (c.take j) ≤ sumW c ∧ sumW (c.drop j) ≤ sumW c := by
  have h : sumW c = sumW (c.take j) + sumW (c.drop j) := by rw [← sumW_append, List.take_append_drop]
  omega
theorem costOf_ge {cs : List (List Txt)} {k : Nat} {c : List Txt} (h : cs[k]? = some c) : sumW c ≤ costOf cs := by
  have := costOf_set (c' := ([] : List Txt)) h
  simp [sumW] at this ⊢
  omega
theorem total_ge {cs : List (List Txt)} {k : Nat} {c : List Txt} (h : cs[k]? = some c) : c.length ≤ total cs := by
  have := total_set (c' := ([] : List Txt)) h
  simp at this
  omega
end Pantry
namespace Go.Proofs.Ytefoieloakfhfaa
open Go.RowKit Pantry

theorem DeqAt.turned {w w2 : World} {d : Nat} {v : Value} {gs : List Nat} {cs : List (List Txt)} (h : DeqAt w d v gs cs) {k g : Nat} {c' : List Txt} (hg : gs[k]? = some g)
    (h1 : w2.heap[g]? = some (.cells (chunkL c').toArray 66)) (h2 : w2.heap[d]? = some (.cells #[v, .int .i64 (total (cs.set k c') : Nat), .int .i64 (costOf (cs.set k c') : Nat)] 62)) (ho : Chg (fun j => j = d ∨ j = g) w w2) :
    DeqAt w2 d v gs (cs.set k c') := by
  refine ⟨h2, ?_, ?_, h.nodup, h.notd, h.rowd, h.rowg⟩
  · rw [List.length_set]
    refine Chg.ownsRow h.row ho fun j hj e => ?_
    rcases e with rfl | rfl
    · exact h.rowd hj
    · exact h.rowg _ hj (List.mem_of_getElem? hg)
  · intro i gi c hi hc
    have hgi : gi ≠ d := fun e => h.notd (by rw [← e]; exact List.mem_of_getElem? hi)
    rw [List.getElem?_set] at hc
    by_cases hik : k = i
    · subst hik
      rw [hg] at hi; cases hi
      rw [if_pos rfl] at hc
      split at hc
      · cases hc; exact h1
      · cases hc
    · rw [if_neg hik] at hc
      have hne : gi ≠ g := fun e => hik (nodup_inj h.nodup hg (by rw [hi, e]))
      exact ho.heap (h.chunk i gi c hi hc) (by rintro (e | e); exact hgi e; exact hne e)

set_option maxHeartbeats 8000000 in
set_option maxRecDepth 100000 in
theorem take_any (w : World) (d : Nat) (v : Value) (gs : List Nat) (cs : List (List Txt)) (k a t : Nat) (c : List Txt) (h : DeqAt w d v gs cs) (hf : Fits cs) (hk : cs[k]? = some c) (hat : a ≤ t) (htn : t ≤ c.length) :
    Calls Try.prog 38 #[.pointer (some ⟨d, 0, none⟩), .int .i64 k, .int .i64 a, .int .i64 t] w (StayPost d v gs (cs.set k (c.take a ++ c.drop t)) (.tuple #[]) w) := by
  obtain ⟨g, sb, cap, hg, hv, hkl, hnc, hcell, hch⟩ := h.at hk
  obtain ⟨⟨d0, d1, d2⟩, -⟩ := three h.head
  have hgd : g ≠ d := fun e => h.notd (by rw [← e]; exact List.mem_of_getElem? hg)
  have hsd : sb ≠ d := fun e => h.rowd (by rw [hv, ← e]; rfl)
  have hc32 := hf.chunk c (List.mem_of_getElem? hk)
  have hT := total_set (c' := c.take a ++ c.drop t) hk
  have hC : costOf (cs.set k (c.take a ++ c.drop t)) + sumW c = costOf cs + sumW (c.take a ++ c.drop t) := costOf_set (c' := c.take a ++ c.drop t) hk
  have hP := sumW_parts c hat
  have hge := costOf_ge hk
  have hgt := total_ge hk
  have hcl := costOf_le hf.text
  have htot := hf.total
  have hlen : (c.take a ++ c.drop t).length = c.length - (t - a) := by simp; omega
  rw [hlen] at hT
  have hrl := hf.rows
  have hq := fun j => (sumW_le (c.drop a) j).1
  have hqc : sumW (c.drop a) ≤ sumW c := (sumW_le c a).2
  have hxl : ∀ x ∈ c, x.length ≤ 1048576 := hf.text c (List.mem_of_getElem? hk)
  subst hv
  obtain ⟨m, hm⟩ : ∃ m, cs.length = m := ⟨_, rfl⟩
  obtain ⟨N, hN⟩ : ∃ N, total cs = N := ⟨_, rfl⟩
  obtain ⟨C, hC2⟩ : ∃ C, costOf cs = C := ⟨_, rfl⟩
  obtain ⟨n, hn⟩ : ∃ n, c.length = n := ⟨_, rfl⟩
  rw [hm] at hkl hnc hrl
  rw [hN] at hT hcl htot hgt
  rw [hC2] at hC hcl hge
  rw [hn] at hT htn hc32 hgt
  have HT := Lib.hid (show ((total (cs.set k (c.take a ++ c.drop t)) : Nat) : Int) = (N : Int) - ((t : Int) - (a : Int)) by omega)
  have HC := Lib.hid (show ((costOf (cs.set k (c.take a ++ c.drop t)) : Nat) : Int) = (C : Int) - (sumW ((c.drop a).take (t - a)) : Nat) by omega)
  have HD := Lib.hid h
  have HCH := Lib.hid hch
  have HG := Lib.hid hg
  have HH := Lib.hid h.head
  have HM := Lib.hid hm
  have HN := Lib.hid hN
  have HC2 := Lib.hid hC2
  have HNN := Lib.hid hn
  have HQ := Lib.hid (fun j => Nat.le_trans (hq j) (Nat.le_trans hqc hge))
  have HX := Lib.hid hxl
  rw [hm] at d0
  have hCb : C ≤ 1048576 * 1048592 := Nat.le_trans hcl (Nat.mul_le_mul_right _ htot)
  clear hT hC hP hge hcl hlen hq hqc hxl h hch hg hk hf hm hN hC2 hn d1 d2
  have hb1 : (a : Int) ≤ (t : Int) := by omega
  have hb2 : (t : Int) ≤ 32 := by omega
  have hw1 : IntKind.i64.wrap ((t : Int) - (a : Int)) = (t : Int) - (a : Int) := by rw [IntKind.wrap_i64]; omega
  have hw2 : IntKind.i64.wrap ((N : Int) - ((t : Int) - (a : Int))) = (N : Int) - ((t : Int) - (a : Int)) := by rw [IntKind.wrap_i64]; omega
  obtain ⟨n1, n3⟩ | ⟨n1, n3⟩ := is32 a
  all_goals
    go_enter Try.func38, Try.ntmps38
    go_wp2_with fail
    go_loopw [25] (fun i wr => ∃ j : Nat, j ≤ t - a ∧ i = .int .i64 j ∧ Hid (Upd d (.cells #[.slice (some ⟨sb, 0, none⟩) m cap, .int .i64 (N : Nat), .int .i64 ((C : Int) - (sumW ((c.drop a).take j) : Nat))] 62) w wr)) (fun i _ => t - a - (intOf i).toNat)
    case atStart =>
      refine ⟨0, Nat.zero_le _, rfl, Lib.hid (Upd.same ?_)⟩
      rw [HH.out, HM.out, HN.out, HC2.out]
      simp [sumW]
    case round =>
      obtain ⟨j, hj, rfl, HU⟩ := hrel
      by_cases hlt : j < t - a
      · try (exfalso; have h32 := of_eq_true n3; omega)
        all_goals
          obtain ⟨x, hx⟩ : ∃ x, (c.drop a)[j]? = some x := ⟨_, List.getElem?_eq_getElem (by rw [List.length_drop, HNN.out]; omega)⟩
          have hcx : wr.cell? ⟨g, a + j, none⟩ = some (.string ⟨x.toArray⟩) := by
            have hca : ChunkAt wr g c := (HU.out.other g hgd).trans HCH.out
            rw [List.getElem?_drop] at hx
            exact hca.text hx
          have hxl : x.length ≤ 1048576 := HX.out x (by rw [List.getElem?_drop] at hx; exact List.mem_of_getElem? hx)
          have hs := sumW_take hx
          have hle := HQ.out (j + 1)
          rw [hs] at hle
          obtain ⟨S, hS⟩ : ∃ S, sumW ((c.drop a).take j) = S := ⟨_, rfl⟩
          rw [hS] at hs hle HU
          have HS := Lib.hid hs
          obtain ⟨⟨e0, e1, e2⟩, ef⟩ := three HU.out.here
          have ef2 := ef 2
          have hw3 : IntKind.i64.wrap ((C : Int) - (S : Int) - (16 + (x.length : Int))) = (C : Int) - (S : Int) - (16 + (x.length : Int)) := by rw [IntKind.wrap_i64]; omega
          have HU2 := Lib.hid (HU.out.setCell 2 (.int .i64 ((C : Int) - (S : Int) - (16 + (x.length : Int))))).drew
          clear hx hs hS ef hle
          go_wp2_with fail
          go_region_with (go_at_call 57; refine (weight_any _ _ (by rw [mk_size]; omega)).mono ?_; rintro e w' ⟨rfl, rfl⟩)
          all_goals
            go_wp2_with fail
            go_roundw
            case rel =>
              refine ⟨j + 1, by omega, by go_num, Lib.hid ?_⟩
              rw [HS.out, show ((C : Int) - ((S + (16 + x.length) : Nat) : Int)) = (C : Int) - (S : Int) - (16 + (x.length : Int)) by omega]
              exact HU2.out
            case measure => simp [intOf]; omega
      · obtain rfl : j = t - a := by omega
        obtain ⟨⟨e0, e1, e2⟩, ef⟩ := three HU.out.here
        have ef1 := ef 1
        have HU2 := Lib.hid (HU.out.setCell 1 (.int .i64 ((N : Int) - ((t : Int) - (a : Int)))))
        clear ef
        have HCA := Lib.hid (show ChunkAt (wr.setCell ⟨d, 1, none⟩ (.int .i64 ((N : Int) - ((t : Int) - (a : Int))))) g c from (HU2.out.other g hgd).trans HCH.out)
        go_wp2_with fail
        refine (cut_any _ g a t c HCA.out (by rw [HNN.out]; exact hc32) hat (by rw [HNN.out]; exact htn)).mono ?_
        rintro e w3 ⟨rfl, hU3⟩
        have HU3 := Lib.hid hU3
        clear hU3
        go_wp2_with fail
        go_end0
        have hcg : Chg (fun j => j = d ∨ j = g) w w3 := (HU2.out.chg.mono fun _ _ e => .inl e).trans HU3.out.chg fun _ _ e => .inr e
        refine ⟨rfl, DeqAt.turned HD.out HG.out HU3.out.here ?_ hcg, hcg.mono fun j _ e => ?_⟩
        · rw [HU3.out.other d (fun e => hgd e.symm), HU2.out.here, HM.out, HT.out, HC.out]
          rfl
        · rcases e with rfl | rfl
          · exact .inl rfl
          · exact .inr (.inl (List.mem_of_getElem? HG.out))
end Go.Proofs.Ytefoieloakfhfaa

/- Remove. -/
namespace Pantry
def dropAt {α : Type} (l : List α) (k : Nat) : List α := l.take k ++ l.drop (k + 1)
theorem dropAt_length {α : Type} {l : List α} {k : Nat} (h : k < l.length) : (dropAt l k).length + 1 = l.length := by simp [dropAt]; omega
theorem dropAt_get {α : Type} {l : List α} {k : Nat} (h : k < l.length) (j : Nat) : (dropAt l k)[j]? = if j < k then l[j]? else l[j + 1]? := by
  unfold dropAt
  by_cases h1 : j < k
  · rw [if_pos h1, List.getElem?_append_left (by rw [List.length_take]; omega), List.getElem?_take, if_pos h1]
  · rw [if_neg h1, List.getElem?_append_right (by rw [List.length_take]; omega), List.getElem?_drop, List.length_take]
    congr 1; omega
theorem dropAt_mem {α : Type} {l : List α} {k : Nat} {x : α} (h : x ∈ dropAt l k) : x ∈ l := by
  simp only [dropAt, List.mem_append] at h
  rcases h with h | h
  · exact List.mem_of_mem_take h
  · exact List.mem_of_mem_drop h
theorem dropAt_sub {α : Type} (l : List α) (k : Nat) : (dropAt l k).Sublist l := by
  have h : l.take k ++ l.drop k = l := List.take_append_drop k l
  conv => rhs; rw [← h]
  unfold dropAt
  refine List.Sublist.append (List.Sublist.refl _) ?_
  rw [show l.drop (k + 1) = (l.drop k).drop 1 by rw [List.drop_drop]]
  exact List.drop_sublist _ _
theorem dropAt_map {α β : Type} (f : α → β) (l : List α) (k : Nat) : (dropAt l k).map f = dropAt (l.map f) k := by simp [dropAt, List.map_take, List.map_drop]
theorem sum_dropAt {α : Type} {f : α → Nat} {l : List α} {k : Nat} {x : α} (h : l[k]? = some x) : ((dropAt l k).map f).sum + f x = (l.map f).sum := by
  obtain ⟨hk, rfl⟩ := List.getElem?_eq_some_iff.1 h
  have h : l.take k ++ l.drop k = l := List.take_append_drop k l
  have e : (l.map f).sum = ((l.take k).map f).sum + ((l.drop k).map f).sum := by rw [← List.sum_append, ← List.map_append, h]
  rw [e, List.drop_eq_getElem_cons hk]
  simp only [dropAt, List.map_append, List.sum_append, List.map_cons, List.sum_cons]
  omega
/-- Remove, on the chunks. -/
def removeC (i : Nat) (cs : List (List Txt)) : List (List Txt) :=
  match cs[(findC cs i).1]? with
  | none => cs
  | some c => if (dropAt c (findC cs i).2).isEmpty then dropAt cs (findC cs i).1 else cs.set (findC cs i).1 (dropAt c (findC cs i).2)
end Pantry
namespace Go.Proofs.Ytefoieloakfhfaa
open Go.RowKit Pantry

/-- An empty chunk has gone: the row is cut, the head is not told of it yet. -/
theorem DeqAt.removed {w w3 w4 : World} {d : Nat} {v v' : Value} {gs : List Nat} {cs : List (List Txt)} (h : DeqAt w d v gs cs) {k : Nat} (hk : cs[k]? = some [])
    (hc : Chg (fun j => v.ownBlock = some j) w w3) (hrow : w3.ownsRow 0 67 1 v' (dropAt cs k).length ((dropAt gs k).map ptr)) (hv : ∀ j, v'.ownBlock = some j → v.ownBlock = some j ∨ w.heap.size ≤ j)
    (hu : Upd d (.cells #[v', .int .i64 (total cs : Nat), .int .i64 (costOf cs : Nat)] 62) w3 w4) : DeqAt w4 d v' (dropAt gs k) (dropAt cs k) ∧ total (dropAt cs k) = total cs ∧ costOf (dropAt cs k) = costOf cs := by
  have hl := h.len
  have hkl := (List.getElem?_eq_some_iff.1 hk).1
  have ht : total (dropAt cs k) = total cs := by have := sum_dropAt (f := fun c : List Txt => c.length) hk; simpa [total] using this
  have hco : costOf (dropAt cs k) = costOf cs := by have := sum_dropAt (f := fun c : List Txt => (c.map fun x : Txt => 16 + x.length).sum) hk; simpa [costOf] using this
  refine ⟨⟨by rw [ht, hco]; exact hu.here, ?_, ?_, h.nodup.sublist (dropAt_sub gs k), fun hm => h.notd (dropAt_mem hm), ?_, ?_⟩, ht, hco⟩
  · refine Chg.ownsRow hrow hu.chg fun j hj e => ?_
    subst e
    rcases hv _ hj with h1 | h1
    · exact h.rowd h1
    · have := h.lt j (.inl rfl); omega
  · intro i gi ci hi hci
    rw [dropAt_get (by omega)] at hi
    rw [dropAt_get hkl] at hci
    have key : gi ∈ gs ∧ ChunkAt w gi ci := by
      by_cases h1 : i < k
      · rw [if_pos h1] at hi hci; exact ⟨List.mem_of_getElem? hi, h.chunk _ _ _ hi hci⟩
      · rw [if_neg h1] at hi hci; exact ⟨List.mem_of_getElem? hi, h.chunk _ _ _ hi hci⟩
    have hne : gi ≠ d := fun e => h.notd (by rw [← e]; exact key.1)
    unfold ChunkAt
    rw [hu.other gi hne]
    exact hc.heap key.2 fun e => h.rowg _ e key.1
  · intro e
    rcases hv d e with h1 | h1
    · exact h.rowd h1
    · have := h.lt d (.inl rfl); omega
  · intro j hj hm
    rcases hv j hj with h1 | h1
    · exact h.rowg j h1 (dropAt_mem hm)
    · have := h.lt j (.inr (.inl (dropAt_mem hm))); omega

set_option maxHeartbeats 8000000 in
set_option maxRecDepth 100000 in
theorem remove_in (w : World) (d : Nat) (v : Value) (gs : List Nat) (cs : List (List Txt)) (i : Nat) (h : DeqAt w d v gs cs) (hf : Fits cs) (hi : i < total cs) :
    Calls Try.prog 18 #[.pointer (some ⟨d, 0, none⟩), .int .i64 i] w (DeqPost d v gs (removeC i cs) (.bool true) w) := by
  have hne : cs ≠ [] := by rintro rfl; simp [total] at hi
  have HLEN := Lib.hid (len_any w d v gs cs h)
  have hfind := find_any w d v gs cs i h hf hne (by have := hf.total; omega)
  obtain ⟨c, h1, h2, h3, h4⟩ := findC_spec hne (Nat.le_of_lt hi)
  have h4 := h4 hi
  unfold removeC
  obtain ⟨⟨k, p⟩, hkp⟩ : ∃ q, findC cs i = q := ⟨_, rfl⟩
  rw [hkp] at h1 h2 h4 hfind ⊢
  simp only at h1 h2 h4 hfind ⊢
  rw [h1]
  simp only
  have HFIND := Lib.hid hfind
  have hc32 := hf.chunk c (List.mem_of_getElem? h1)
  have HTAKE := Lib.hid (take_any w d v gs cs k p (p + 1) c h hf h1 (by omega) (by omega))
  have hkl := (List.getElem?_eq_some_iff.1 h1).1
  have hset : (cs.set k (dropAt c p))[k]? = some (dropAt c p) := by rw [List.getElem?_set_self hkl]
  have hrl := hf.rows
  have hit : (i : Int) < ((total cs : Nat) : Int) := by omega
  have hi0 : ¬ (i : Int) < 0 := by omega
  have hpl : p ≤ 32 := by omega
  have hdl : (dropAt c p).length ≤ 32 := by have := dropAt_length h4; omega
  clear hfind hkp h3
  by_cases he : (dropAt c p).isEmpty = true
  · rw [if_pos he]
    have he2 : dropAt c p = [] := by simpa using he
    go_enter Try.func18, Try.ntmps18
    go_upto_region 5 with (first
      | (go_at_call 16; refine HLEN.out.mono ?_; rintro e w' ⟨rfl, rfl⟩)
      | (go_at_call 36; refine HFIND.out.mono ?_; rintro e w' ⟨rfl, rfl⟩)
      | (go_at_call 38; refine HTAKE.out.mono ?_; rintro e w1 ⟨rfl, hd1, hc1⟩))
    have hd1' : DeqAt w1 d v gs (cs.set k []) := by rw [← he2]; exact hd1
    have hk1 : (cs.set k [])[k]? = some [] := by rw [List.getElem?_set_self hkl]
    obtain ⟨g, sb, cap, hg, hv, -, hnc, hcell, hch⟩ := hd1'.at hk1
    have hn := hch.n (by simp)
    have hlen : (cs.set k []).length = cs.length := List.length_set
    obtain ⟨j, hj⟩ : ∃ j, cs.length = j + 1 := ⟨cs.length - 1, by omega⟩
    rw [hlen, hj] at hv hnc
    have hrow := hd1'.row
    rw [hlen, hj] at hrow
    have HDEL := Lib.hid (delete_any w1 0 k j v (gs.map ptr) hrow (by omega) (ptr_one gs))
    obtain ⟨⟨d0, -, -⟩, -⟩ := three hd1'.head
    have HNEXT := Lib.hid (fun (v' : Value) (w2 : World) (r1 : w2.ownsRow 0 67 1 v' j ((gs.map ptr).take k ++ (gs.map ptr).drop (k + 1))) (r2 : w1.grownBy w2 v.ownBlock) (r3 : ∀ q, v'.ownBlock = some q → v.ownBlock = some q ∨ w1.heap.size ≤ q) =>
      show (∃ x y, w2.heap[d]? = some (.cells #[v, x, y] 62)) ∧ DeqPost d v gs (dropAt cs k) (.bool true) w (.returned (.bool true)) (w2.setCell ⟨d, 0, none⟩ v') from by
      have hcg : Chg (fun q => v.ownBlock = some q) w1 w2 := Chg.of_grown r2 fun q e => e
      have hd2 := hcg.heap hd1'.head (fun e => hd1'.rowd e)
      have hU := (Upd.same hd2).setCell 0 v'
      have hlenD : (dropAt (cs.set k []) k).length = j := by have := dropAt_length (l := cs.set k []) (k := k) (by rw [hlen]; exact hkl); omega
      have hrm := hd1'.removed hk1 hcg (v' := v') (by rw [hlenD, dropAt_map]; exact r1) r3 hU
      have hdd : dropAt (cs.set k []) k = dropAt cs k := by
        unfold dropAt
        rw [List.take_set_of_le (Nat.le_refl _), List.drop_set_of_lt (by omega)]
      rw [hdd] at hrm
      refine ⟨⟨_, _, hd2⟩, v', dropAt gs k, rfl, hrm.1, (hc1.trans hcg fun q _ e => .inr (.inr e)).trans hU.chg (fun q _ e => .inl e), fun q hq => ?_⟩
      rcases hq with rfl | hq | hq
      · exact .inl (.inl rfl)
      · exact .inl (.inr (.inl (dropAt_mem hq)))
      · rcases r3 q hq with e | e
        · exact .inl (.inr (.inr e))
        · exact .inr (Nat.le_trans hc1.size e))
    have hkj : (k : Int) < (j : Int) + 1 := by omega
    have hkj2 : k < j + 1 := by omega
    rw [hj] at hrl
    clear hd1 hd1' hrow hk1 hch hg hset h1 h2 h4 hc1 HTAKE hkl he he2 hlen hj h hf hi hne
    subst hv
    go_wp2_with fail
    refine HDEL.out.mono ?_
    rintro e w2 ⟨v', rfl, r1, r2, r3⟩
    obtain ⟨⟨x, y, hd2⟩, HP⟩ := HNEXT.out v' w2 r1 r2 r3
    have HPP := Lib.hid HP
    obtain ⟨a', c', rfl, -⟩ := ownsRow_rd r1 (by
      intro u hu
      rcases List.mem_append.1 hu with hu | hu
      · exact ptr_one gs u (List.mem_of_mem_take hu)
      · exact ptr_one gs u (List.mem_of_mem_drop hu))
    obtain ⟨⟨e0, -, -⟩, ef⟩ := three hd2
    have ef0 := ef 0
    clear hd2 HP r1 r2 r3 ef
    go_wp2_with fail
    go_ret
    exact HPP.out
  · rw [if_neg he]
    go_enter Try.func18, Try.ntmps18
    go_upto_region 5 with (first
      | (go_at_call 16; refine HLEN.out.mono ?_; rintro e w' ⟨rfl, rfl⟩)
      | (go_at_call 36; refine HFIND.out.mono ?_; rintro e w' ⟨rfl, rfl⟩)
      | (go_at_call 38; refine HTAKE.out.mono ?_; rintro e w1 ⟨rfl, hd1, hc1⟩))
    have hd1' : DeqAt w1 d v gs (cs.set k (dropAt c p)) := hd1
    obtain ⟨g, sb, cap, hg, hv, -, hnc, hcell, hch⟩ := hd1'.at hset
    have hn := hch.n hdl
    obtain ⟨⟨d0, -, -⟩, -⟩ := three hd1'.head
    have hlen : (cs.set k (dropAt c p)).length = cs.length := List.length_set
    rw [hlen] at hv hnc
    have hn0 : ((((dropAt c p).length : Nat) : Int) == 0) = false := by
      rw [beq_eq_false_iff_ne]
      intro e
      exact he (by simpa using List.eq_nil_of_length_eq_zero (by omega))
    have HP := Lib.hid (show DeqPost d v gs (cs.set k (dropAt c p)) (.bool true) w (.returned (.bool true)) w1 from ⟨v, gs, rfl, hd1', hc1, fun q hq => .inl hq⟩)
    have hkl2 : (k : Int) < (cs.length : Int) := by omega
    clear hd1 hd1' hch hg hset h1 h2 h4 hc1 HTAKE he hlen h hf hi hne
    subst hv
    obtain ⟨z, hz⟩ : ∃ z, (dropAt c p).length = z := ⟨_, rfl⟩
    rw [hz] at hn hn0
    clear hz
    go_wp2_with fail
    go_ret
    exact HP.out
end Go.Proofs.Ytefoieloakfhfaa

/- Remove of no place; Pop. -/
namespace Pantry
theorem removeC_row {cs : List (List Txt)} {i : Nat} (hi : i < total cs) : (removeC i cs).flatten = dropAt cs.flatten i := by
  have hne : cs ≠ [] := by rintro rfl; simp [total] at hi
  obtain ⟨c, h1, h2, h3, h4⟩ := findC_spec hne (Nat.le_of_lt hi)
  have h4 := h4 hi
  unfold removeC
  rw [h1]
  simp only
  obtain ⟨⟨k, p⟩, hkp⟩ : ∃ q, findC cs i = q := ⟨_, rfl⟩
  rw [hkp] at h1 h2 h3 h4 ⊢
  simp only at h1 h2 h3 h4 ⊢
  have hT : (cs.take k).flatten.length = total (cs.take k) := flatten_length _
  have key : dropAt cs.flatten i = (cs.take k).flatten ++ dropAt c p ++ (cs.drop (k + 1)).flatten := by
    rw [at_flatten h1, ← h3]
    unfold dropAt
    rw [← hT, List.append_assoc, List.append_assoc]
    rw [List.take_length_add_append, show (cs.take k).flatten.length + p + 1 = (cs.take k).flatten.length + (p + 1) by omega, List.drop_length_add_append]
    rw [List.take_append_of_le_length h2, List.drop_append_of_le_length (by omega)]
    simp
  rw [key]
  by_cases he : (dropAt c p).isEmpty = true
  · rw [if_pos he]
    have he2 : dropAt c p = [] := by simpa using he
    rw [he2]
    simp [dropAt]
  · rw [if_neg he, set_flatten h1]
theorem DGood.remove {cs : List (List Txt)} (h : DGood cs) {i : Nat} (hi : i < total cs) : DGood (removeC i cs) ∧ total (removeC i cs) + 1 = total cs := by
  have hrow := removeC_row hi
  have htot : total (removeC i cs) + 1 = total cs := by
    rw [← flatten_length, hrow, ← flatten_length cs]
    exact dropAt_length (by rw [flatten_length]; exact hi)
  refine ⟨?_, htot⟩
  have hne : cs ≠ [] := by rintro rfl; simp [total] at hi
  obtain ⟨c, h1, h2, h3, h4⟩ := findC_spec hne (Nat.le_of_lt hi)
  have h4 := h4 hi
  have hkl := (List.getElem?_eq_some_iff.1 h1).1
  have hc := List.mem_of_getElem? h1
  have ht := h.total
  have hr := h.rows
  unfold removeC at htot ⊢
  rw [h1] at htot ⊢
  simp only at htot ⊢
  by_cases he : (dropAt c (findC cs i).2).isEmpty = true
  · rw [if_pos he] at htot ⊢
    exact ⟨⟨fun x hx => h.chunk x (dropAt_mem hx), fun x hx => h.text x (dropAt_mem hx), by omega, by have := dropAt_length hkl; omega⟩, fun x hx => h.some_ x (dropAt_mem hx)⟩
  · rw [if_neg he] at htot ⊢
    refine ⟨⟨fun x hx => ?_, fun x hx y hy => ?_, by omega, by rw [List.length_set]; exact hr⟩, fun x hx => ?_⟩
    · rcases set_mem hx with h5 | rfl
      · exact h.chunk x h5
      · have := h.chunk c hc; have := dropAt_length h4; omega
    · rcases set_mem hx with h5 | rfl
      · exact h.text x h5 y hy
      · exact h.text c hc y (dropAt_mem hy)
    · rcases set_mem hx with h5 | rfl
      · exact h.some_ x h5
      · intro e; exact he (by rw [e]; rfl)
end Pantry
namespace Go.Proofs.Ytefoieloakfhfaa
open Go.RowKit Pantry

theorem remove_out (w : World) (d : Nat) (v : Value) (gs : List Nat) (cs : List (List Txt)) (i : Int) (h : DeqAt w d v gs cs) (hi : i < 0 ∨ (total cs : Int) ≤ i) :
    Calls Try.prog 18 #[.pointer (some ⟨d, 0, none⟩), .int .i64 i] w fun e w' => e = .returned (.bool false) ∧ w = w' := by
  have HL := Lib.hid (len_any w d v gs cs h)
  obtain ⟨N, hN⟩ : ∃ N, total cs = N := ⟨_, rfl⟩
  rw [hN] at hi HL
  clear h hN
  by_cases h0 : i < 0
  · clear hi
    go_enter Try.func18, Try.ntmps18
    go_wp2_with fail
    go_ret
    exact ⟨rfl, rfl⟩
  · have h1 : (N : Int) ≤ i := by omega
    clear hi
    go_enter Try.func18, Try.ntmps18
    go_wp2_with (go_at_call 16; refine HL.out.mono ?_; rintro e w' ⟨rfl, rfl⟩)
    go_ret
    exact ⟨rfl, rfl⟩
theorem remove_nil (w : World) (i : Int) : Calls Try.prog 18 #[.pointer none, .int .i64 i] w fun e w' => e = .returned (.bool false) ∧ w = w' := by
  by_cases h0 : i < 0
  · go_enter Try.func18, Try.ntmps18
    go_wp2_with fail
    go_ret
    exact ⟨rfl, rfl⟩
  · have h1 : (0 : Int) ≤ i := by omega
    go_enter Try.func18, Try.ntmps18
    go_wp2_with (go_at_call 16; refine (len_nil _).mono ?_; rintro e w' ⟨rfl, rfl⟩)
    go_ret
    exact ⟨rfl, rfl⟩
theorem pop_nil (w : World) (b : Bool) : Calls Try.prog 12 #[.pointer none, .bool b] w fun e w' => e = .returned (.tuple #[.string ⟨#[]⟩, .bool false]) ∧ w = w' := by
  cases b
  all_goals
    go_enter Try.func12, Try.ntmps12
    go_wp2_with (first
      | (go_at_call 16; refine (len_nil _).mono ?_; rintro e w' ⟨rfl, rfl⟩)
      | (go_at_call 23; refine (at_nil _ _).mono ?_; rintro e w' ⟨rfl, rfl⟩)
      | (go_at_call 18; refine (remove_nil _ _).mono ?_; rintro e w' ⟨rfl, rfl⟩))
    go_ret2
    exact ⟨rfl, rfl⟩
theorem pop_empty (w : World) (d : Nat) (v : Value) (gs : List Nat) (b : Bool) (h : DeqAt w d v gs []) : Calls Try.prog 12 #[.pointer (some ⟨d, 0, none⟩), .bool b] w fun e w' => e = .returned (.tuple #[.string ⟨#[]⟩, .bool false]) ∧ w = w' := by
  have HL := Lib.hid (len_any w d v gs [] h)
  have HA := Lib.hid (fun (i : Int) (hi : i < 0 ∨ ((total [] : Nat) : Int) ≤ i) => at_out w d v gs [] i h hi)
  have HR := Lib.hid (fun (i : Int) (hi : i < 0 ∨ ((total [] : Nat) : Int) ≤ i) => remove_out w d v gs [] i h hi)
  have ht : total [] = 0 := rfl
  rw [ht] at HL HA HR
  clear h ht
  cases b
  all_goals
    go_enter Try.func12, Try.ntmps12
    go_wp2_with (first
      | (go_at_call 16; refine HL.out.mono ?_; rintro e w' ⟨rfl, rfl⟩)
      | (go_at_call 23; refine (HA.out _ (by simp)).mono ?_; rintro e w' ⟨rfl, rfl⟩)
      | (go_at_call 18; refine (HR.out _ (by simp)).mono ?_; rintro e w' ⟨rfl, rfl⟩))
    go_ret2
    exact ⟨rfl, rfl⟩
/-- Which place Pop takes. -/
def popAt (b : Bool) (cs : List (List Txt)) : Nat := if b then 0 else total cs - 1
set_option maxHeartbeats 1000000 in
theorem pop_some (w : World) (d : Nat) (v : Value) (gs : List Nat) (cs : List (List Txt)) (b : Bool) (x : Txt) (h : DeqAt w d v gs cs) (hf : Fits cs) (hx : cs.flatten[popAt b cs]? = some x) :
    Calls Try.prog 12 #[.pointer (some ⟨d, 0, none⟩), .bool b] w (DeqPost d v gs (removeC (popAt b cs) cs) (.tuple #[.string ⟨x.toArray⟩, .bool true]) w) := by
  have hi : popAt b cs < total cs := by rw [← flatten_length]; exact (List.getElem?_eq_some_iff.1 hx).1
  have HL := Lib.hid (len_any w d v gs cs h)
  have HA := Lib.hid (at_in w d v gs cs (popAt b cs) x h hf hx)
  have HR := Lib.hid (remove_in w d v gs cs (popAt b cs) h hf hi)
  obtain ⟨I, hI⟩ : ∃ I, popAt b cs = I := ⟨_, rfl⟩
  obtain ⟨N, hN⟩ : ∃ N, total cs = N := ⟨_, rfl⟩
  have hIN : I = if b then 0 else N - 1 := by rw [← hI, ← hN]; rfl
  rw [hI] at HA HR hi ⊢
  have hNb := hf.total
  rw [hN] at HL hi hNb
  clear h hf hx hI hN
  cases b with
  | true =>
    simp only [if_true] at hIN
    subst hIN
    rw [show ((0 : Nat) : Int) = 0 from rfl] at HA HR
    go_enter Try.func12, Try.ntmps12
    go_wp2_with (go_at_call 16; refine HL.out.mono ?_; rintro e w' ⟨rfl, rfl⟩)
    refine HA.out.mono ?_
    rintro e w' ⟨rfl, rfl⟩
    go_wp2_with fail
    refine HR.out.mono ?_
    rintro e w' ⟨v', gs', rfl, hd, hc, hft⟩
    go_wp2_with fail
    go_ret2
    exact ⟨v', gs', rfl, hd, hc, hft⟩
  | false =>
    simp only [Bool.false_eq_true, if_false] at hIN
    obtain ⟨j, rfl⟩ : ∃ j, N = j + 1 := ⟨N - 1, by omega⟩
    simp only [Nat.add_sub_cancel] at hIN
    subst hIN
    rw [show ((I + 1 : Nat) : Int) = (I : Int) + 1 from rfl] at HL
    go_enter Try.func12, Try.ntmps12
    go_wp2_with (go_at_call 16; refine HL.out.mono ?_; rintro e w' ⟨rfl, rfl⟩)
    refine HA.out.mono ?_
    rintro e w' ⟨rfl, rfl⟩
    go_wp2_with fail
    refine HR.out.mono ?_
    rintro e w' ⟨v', gs', rfl, hd, hc, hft⟩
    go_wp2_with fail
    go_ret2
    exact ⟨v', gs', rfl, hd, hc, hft⟩
end Go.Proofs.Ytefoieloakfhfaa

/- Set. -/
namespace Pantry
/-- Set, on the chunks. -/
def setC (i : Nat) (s : Txt) (cs : List (List Txt)) : List (List Txt) :=
  match cs[(findC cs i).1]? with
  | none => cs
  | some c => cs.set (findC cs i).1 (c.set (findC cs i).2 s)
theorem chunk_set {c : List Txt} {p : Nat} {s : Txt} (hp : p < c.length) : (chunkL c).set p (txt s) = chunkL (c.set p s) := by
  unfold chunkL
  have h1 : p < (txts c).length := by rw [txts_length]; exact hp
  rw [List.append_assoc, List.set_append_left _ _ h1, List.length_set, ← List.append_assoc]
  simp [txts, List.map_set]
end Pantry
namespace Go.Proofs.Ytefoieloakfhfaa
open Go.RowKit Pantry

set_option maxHeartbeats 4000000 in
set_option maxRecDepth 100000 in
theorem set_in (w : World) (d : Nat) (v : Value) (gs : List Nat) (cs : List (List Txt)) (i : Nat) (s : Txt) (h : DeqAt w d v gs cs) (hf : Fits cs) (hi : i < total cs) (hs : s.length ≤ 1048576) :
    Calls Try.prog 47 #[.pointer (some ⟨d, 0, none⟩), .int .i64 i, .string ⟨s.toArray⟩] w (StayPost d v gs (setC i s cs) (.bool true) w) := by
  have hne : cs ≠ [] := by rintro rfl; simp [total] at hi
  have HLEN := Lib.hid (len_any w d v gs cs h)
  have hfind := find_any w d v gs cs i h hf hne (by have := hf.total; omega)
  obtain ⟨c, h1, h2, h3, h4⟩ := findC_spec hne (Nat.le_of_lt hi)
  have h5 := h4 hi
  clear h4
  unfold setC
  obtain ⟨⟨k, p⟩, hkp⟩ : ∃ q, findC cs i = q := ⟨_, rfl⟩
  rw [hkp] at h1 h2 h5 hfind ⊢
  simp only at h1 h2 h5 hfind ⊢
  rw [h1]
  simp only
  have HFIND := Lib.hid hfind
  have hc32 := hf.chunk c (List.mem_of_getElem? h1)
  obtain ⟨x, hx⟩ : ∃ x, c[p]? = some x := ⟨_, List.getElem?_eq_getElem h5⟩
  have hxl := hf.text c (List.mem_of_getElem? h1) x (List.mem_of_getElem? hx)
  obtain ⟨g, sb, cap, hg, hv, hkl, hnc, hcell, hch⟩ := h.at h1
  have hgd : g ≠ d := fun e => h.notd (by rw [← e]; exact List.mem_of_getElem? hg)
  have hdg : d ≠ g := fun e => hgd e.symm
  have htx := hch.text hx
  have hfz : w.frozen? ⟨g, p, none⟩ = false := frozen_of_row w g p _ _ hch
  obtain ⟨⟨d0, d1, d2⟩, df⟩ := three h.head
  have df2 := df 2
  have hT := total_set (c' := c.set p s) h1
  rw [List.length_set] at hT
  have hC : costOf (cs.set k (c.set p s)) + sumW c = costOf cs + sumW (c.set p s) := costOf_set (c' := c.set p s) h1
  have hW : sumW (c.set p s) + (16 + x.length) = sumW c + (16 + s.length) := by
    have := sum_set (f := fun y : Txt => 16 + y.length) (c' := s) hx
    simpa [sumW] using this
  have hcl := costOf_le hf.text
  have htot := hf.total
  have hrl := hf.rows
  have hsz := mk_size s
  have hsx := mk_size x
  subst hv
  obtain ⟨m, hm⟩ : ∃ m, cs.length = m := ⟨_, rfl⟩
  obtain ⟨N, hN⟩ : ∃ N, total cs = N := ⟨_, rfl⟩
  obtain ⟨C, hC2⟩ : ∃ C, costOf cs = C := ⟨_, rfl⟩
  have hge : sumW c ≤ C := by rw [← hC2]; exact costOf_ge h1
  rw [hm] at hkl hnc d0 hrl
  rw [hN] at d1 hi hT htot hcl HLEN
  rw [hC2] at d2 hC hcl
  have hCb : C ≤ 1048576 * 1048592 := Nat.le_trans hcl (Nat.mul_le_mul_right _ htot)
  have HT := Lib.hid (show total (cs.set k (c.set p s)) = N by omega)
  have HC := Lib.hid (show ((costOf (cs.set k (c.set p s)) : Nat) : Int) = (C : Int) + ((16 + (s.length : Int)) - (16 + (x.length : Int))) by omega)
  have HD := Lib.hid h
  have HG := Lib.hid hg
  have HCH := Lib.hid hch
  have HH := Lib.hid h.head
  have HM := Lib.hid hm
  have HN := Lib.hid hN
  have HC2 := Lib.hid hC2
  have HCS := Lib.hid (chunk_set (s := s) h5)
  have HEND := Lib.hid (show StayPost d (.slice (some ⟨sb, 0, none⟩) cs.length cap) gs (cs.set k (c.set p s)) (.bool true) w (.returned (.bool true))
      ((w.setCell ⟨d, 2, none⟩ (.int .i64 ((C : Int) + ((16 + (s.length : Int)) - (16 + (x.length : Int)))))).setCell ⟨g, p, none⟩ (.string ⟨s.toArray⟩)).drew from by
    have hU1 := (Upd.same h.head).setCell 2 (.int .i64 ((C : Int) + ((16 + (s.length : Int)) - (16 + (x.length : Int)))))
    have hch1 := (hU1.other g hgd).trans hch
    have hU2 := ((Upd.same hch1).setCell p (.string ⟨s.toArray⟩)).drew
    have hcg : Chg (fun j => j = d ∨ j = g) w _ := (hU1.chg.mono fun _ _ e => .inl e).trans hU2.chg fun _ _ e => .inr e
    refine ⟨rfl, DeqAt.turned h hg ?_ ?_ hcg, hcg.mono fun j _ e => ?_⟩
    · rw [hU2.here, ← HCS.out]
      congr 2
      apply Array.toList_inj.1
      simp [txt]
    · rw [hU2.other d hdg, hU1.here, HT.out, HC.out, hN]
      rfl
    · rcases e with rfl | rfl
      · exact .inl rfl
      · exact .inr (.inl (List.mem_of_getElem? hg)))
  clear h hf hx h1 h2 h3 hch hm hN hkp hne d1 hC2 hT hC hW hcl hge df hg hfind
  have hp32 : (p : Int) < 32 := by omega
  have hp2 : p < 32 := by omega
  have hi0 : ¬ (i : Int) < 0 := by omega
  have hit : (i : Int) < (N : Int) := by omega
  have hsl : ¬ (1048576 : Int) < (s.length : Int) := by omega
  have hw1 : IntKind.i64.wrap ((16 + (s.length : Int)) - (16 + (x.length : Int))) = (16 + (s.length : Int)) - (16 + (x.length : Int)) := by rw [IntKind.wrap_i64]; omega
  have hw2 : IntKind.i64.wrap ((C : Int) + ((16 + (s.length : Int)) - (16 + (x.length : Int)))) = (C : Int) + ((16 + (s.length : Int)) - (16 + (x.length : Int))) := by rw [IntKind.wrap_i64]; omega
  go_enter Try.func47, Try.ntmps47
  go_wp2_with (first
    | (go_at_call 16; refine HLEN.out.mono ?_; rintro e w' ⟨rfl, rfl⟩)
    | (go_at_call 36; refine HFIND.out.mono ?_; rintro e w' ⟨rfl, rfl⟩))
  go_region_with (go_at_call 57; refine (weight_any _ _ (by first | (rw [hsz]; omega) | (rw [hsx]; omega))).mono ?_; rintro e w' ⟨rfl, rfl⟩)
  all_goals
    go_wp2_with fail
    go_ret
    exact HEND.out
end Go.Proofs.Ytefoieloakfhfaa

/- Insert: what is refused, an empty deque, a chunk that has room. -/
namespace Pantry
/-- A chunk of 32 parted. -/
def partC (k : Nat) (c : List Txt) (cs : List (List Txt)) : List (List Txt) := putIn (cs.set k (c.take 16)) (k + 1) (c.drop 16)
/-- Insert, on the chunks. -/
def insC (i : Nat) (s : Txt) (cs : List (List Txt)) : List (List Txt) :=
  match cs[(findC cs i).1]? with
  | none => pushC true s cs
  | some c =>
    if c.length = 32 then
      if 16 ≤ (findC cs i).2 then (partC (findC cs i).1 c cs).set ((findC cs i).1 + 1) (insAt (c.drop 16) ((findC cs i).2 - 16) s)
      else (partC (findC cs i).1 c cs).set (findC cs i).1 (insAt (c.take 16) (findC cs i).2 s)
    else cs.set (findC cs i).1 (insAt c (findC cs i).2 s)
end Pantry
namespace Go.Proofs.Ytefoieloakfhfaa
open Go.RowKit Pantry

theorem ins_nil (w : World) (i : Int) (s : ByteArray) : Calls Try.prog 15 #[.pointer none, .int .i64 i, .string s] w fun e w' => e = .returned (.int .i64 1) ∧ w = w' := by
  go_enter Try.func15, Try.ntmps15
  go_wp2_with fail
  go_ret
  exact ⟨rfl, rfl⟩
theorem ins_arg (w : World) (d : Nat) (v : Value) (gs : List Nat) (cs : List (List Txt)) (i : Int) (s : ByteArray) (h : DeqAt w d v gs cs) (hi : i < 0 ∨ (total cs : Int) < i) :
    Calls Try.prog 15 #[.pointer (some ⟨d, 0, none⟩), .int .i64 i, .string s] w fun e w' => e = .returned (.int .i64 3) ∧ w = w' := by
  obtain ⟨⟨-, d1, -⟩, -⟩ := three h.head
  obtain ⟨N, hN⟩ : ∃ N, total cs = N := ⟨_, rfl⟩
  rw [hN] at hi d1
  clear h hN
  by_cases h0 : i < 0
  · clear hi
    go_enter Try.func15, Try.ntmps15
    go_wp2_with fail
    go_ret
    exact ⟨rfl, rfl⟩
  · have h1 : (N : Int) < i := by omega
    clear hi
    go_enter Try.func15, Try.ntmps15
    go_wp2_with fail
    go_ret
    exact ⟨rfl, rfl⟩
theorem ins_refused (w : World) (d : Nat) (v : Value) (gs : List Nat) (cs : List (List Txt)) (i : Int) (s : ByteArray) (code : Int) (h : DeqAt w d v gs cs) (hi : 0 ≤ i ∧ i ≤ (total cs : Int)) (hc : (code != 0) = true)
    (hr : Calls Try.prog 33 #[.pointer (some ⟨d, 0, none⟩), .string s] w fun e w' => e = .returned (.int .i64 code) ∧ w = w') :
    Calls Try.prog 15 #[.pointer (some ⟨d, 0, none⟩), .int .i64 i, .string s] w fun e w' => e = .returned (.int .i64 code) ∧ w = w' := by
  obtain ⟨⟨-, d1, -⟩, -⟩ := three h.head
  obtain ⟨N, hN⟩ : ∃ N, total cs = N := ⟨_, rfl⟩
  rw [hN] at hi d1
  have HR := Lib.hid hr
  clear h hN hr
  obtain ⟨h0, h1⟩ := hi
  go_enter Try.func15, Try.ntmps15
  go_wp2_with fail
  refine HR.out.mono ?_
  rintro e w' ⟨rfl, rfl⟩
  go_wp2_with fail
  go_ret
  exact ⟨rfl, rfl⟩
theorem ins_empty (w : World) (d : Nat) (v : Value) (gs : List Nat) (s : Txt) (h : DeqAt w d v gs []) (hs : s.length ≤ 1048576) :
    Calls Try.prog 15 #[.pointer (some ⟨d, 0, none⟩), .int .i64 0, .string ⟨s.toArray⟩] w (DeqPost d v gs (pushC true s []) (.int .i64 0) w) := by
  have HR := Lib.hid (refused_no w d v gs [] s h hs (by simp [total]))
  have HP := Lib.hid (push_ok w d v gs [] true s h DGood.nil hs (by simp [total]))
  obtain ⟨⟨-, d1, -⟩, -⟩ := three h.head
  rw [show ((total [] : Nat) : Int) = 0 from rfl] at d1
  clear h
  go_enter Try.func15, Try.ntmps15
  go_wp2_with fail
  refine HR.out.mono ?_
  rintro e w' ⟨rfl, rfl⟩
  go_wp2_with fail
  refine HP.out.mono ?_
  rintro e w' ⟨v', gs', rfl, hd, hc, hft⟩
  have HE := Lib.hid (show DeqPost d v gs (pushC true s []) (.int .i64 0) w (.returned (.int .i64 0)) w' from ⟨v', gs', rfl, hd, hc, hft⟩)
  clear hd hc hft
  go_wp2_with fail
  go_ret
  exact HE.out

set_option maxHeartbeats 4000000 in
set_option maxRecDepth 100000 in
theorem ins_room (w : World) (d : Nat) (v : Value) (gs : List Nat) (cs : List (List Txt)) (i : Nat) (s : Txt) (k p : Nat) (c : List Txt) (h : DeqAt w d v gs cs) (hf : Fits cs) (hne : cs ≠ []) (hi : i ≤ total cs) (ht0 : 0 < total cs) (hs : s.length ≤ 1048576) (ht : total cs < 1048576)
    (hkp : findC cs i = (k, p)) (h1 : cs[k]? = some c) (hc : c.length < 32) (hp : p ≤ c.length) :
    Calls Try.prog 15 #[.pointer (some ⟨d, 0, none⟩), .int .i64 i, .string ⟨s.toArray⟩] w (DeqPost d v gs (cs.set k (insAt c p s)) (.int .i64 0) w) := by
  have HR := Lib.hid (refused_no w d v gs cs s h hs ht)
  have hfind := find_any w d v gs cs i h hf hne (by omega)
  rw [hkp] at hfind
  have HFIND := Lib.hid hfind
  have HLAY := Lib.hid (lay_any w d v gs cs k p c s h h1 hc hp hf ht hs)
  obtain ⟨g, sb, cap, hg, hv, hkl, hnc, hcell, hch⟩ := h.at h1
  have hn := hch.n (by omega)
  obtain ⟨⟨d0, d1, -⟩, -⟩ := three h.head
  have hrl := hf.rows
  have HFOOT := Lib.hid (fun (w' : World) (cs' : List (List Txt)) (hd : DeqAt w' d v gs cs') (hc : Chg (Foot d v gs) w w') => show DeqPost d v gs cs' (.int .i64 0) w (.returned (.int .i64 0)) w' from ⟨v, gs, rfl, hd, hc, fun k hk => .inl hk⟩)
  subst hv
  obtain ⟨m, hm⟩ : ∃ m, cs.length = m := ⟨_, rfl⟩
  obtain ⟨n, hn2⟩ : ∃ n, c.length = n := ⟨_, rfl⟩
  obtain ⟨N, hN⟩ : ∃ N, total cs = N := ⟨_, rfl⟩
  rw [hm] at hkl hnc d0 hrl HLAY HFOOT ⊢
  rw [hn2] at hn hc
  rw [hN] at d1 hi ht0
  clear h hf h1 hg hch hm hn2 hN hkp hfind hne
  have h32 : ((n : Int) == 32) = false := by rw [beq_eq_false_iff_ne]; omega
  have hN0 : ((N : Int) == 0) = false := by rw [beq_eq_false_iff_ne]; omega
  have hiN : (i : Int) ≤ (N : Int) := by omega
  have hkm : (k : Int) < (m : Int) := by omega
  go_enter Try.func15, Try.ntmps15
  go_wp2_with fail
  refine HR.out.mono ?_
  rintro e w' ⟨rfl, rfl⟩
  go_wp2_with fail
  refine HFIND.out.mono ?_
  rintro e w' ⟨rfl, rfl⟩
  go_wp2_with fail
  refine HLAY.out.mono ?_
  rintro e w' ⟨rfl, hd, hcg⟩
  have HE := Lib.hid (HFOOT.out _ _ hd hcg)
  clear hd hcg
  go_wp2_with fail
  go_ret
  exact HE.out
end Go.Proofs.Ytefoieloakfhfaa

/- Insert where a chunk of 32 is parted. -/
namespace Pantry
open Go Go.RowKit
theorem partC_get {cs : List (List Txt)} {k : Nat} {c : List Txt} (h : cs[k]? = some c) (j : Nat) : (partC k c cs)[j]? = if j = k then some (c.take 16) else if j = k + 1 then some (c.drop 16) else if j < k then cs[j]? else cs[j - 1]? := by
  have hk := (List.getElem?_eq_some_iff.1 h).1
  unfold partC
  rw [putIn_get (by rw [List.length_set]; omega)]
  by_cases h1 : j = k
  · subst h1
    rw [if_pos (by omega), if_pos rfl, List.getElem?_set_self hk]
  · rw [if_neg h1]
    by_cases h2 : j = k + 1
    · rw [if_neg (by omega), if_pos h2, if_pos h2]
    · rw [if_neg h2, if_neg h2]
      by_cases h3 : j < k
      · rw [if_pos (by omega), if_pos h3, List.getElem?_set_ne (by omega)]
      · rw [if_neg (by omega), if_neg h3, List.getElem?_set_ne (by omega)]
theorem partC_total {cs : List (List Txt)} {k : Nat} {c : List Txt} (h : cs[k]? = some c) : total (partC k c cs) = total cs := by
  have := total_set (c' := c.take 16) h
  unfold partC
  rw [total_putIn]
  have e : (c.take 16).length + (c.drop 16).length = c.length := by rw [← List.length_append, List.take_append_drop]
  omega
theorem partC_cost {cs : List (List Txt)} {k : Nat} {c : List Txt} (h : cs[k]? = some c) : costOf (partC k c cs) = costOf cs := by
  have := costOf_set (c' := c.take 16) h
  unfold partC
  rw [costOf_putIn]
  have e : sumW (c.take 16) + sumW (c.drop 16) = sumW c := by rw [← sumW_append, List.take_append_drop]
  unfold sumW at e
  omega
theorem partC_length {cs : List (List Txt)} {k : Nat} {c : List Txt} (h : cs[k]? = some c) : (partC k c cs).length = cs.length + 1 := by
  have hk := (List.getElem?_eq_some_iff.1 h).1
  unfold partC
  rw [putIn_length (by rw [List.length_set]; omega), List.length_set]
theorem partC_fits {cs : List (List Txt)} {k : Nat} {c : List Txt} (h : cs[k]? = some c) (hf : Fits cs) (hr : cs.length ≤ 1048576) : Fits (partC k c cs) := by
  have hm := List.mem_of_getElem? h
  have key : ∀ c' ∈ partC k c cs, c' ∈ cs ∨ c' = c.take 16 ∨ c' = c.drop 16 := by
    intro c' hc'
    rcases putIn_mem hc' with h1 | h1
    · rcases List.mem_or_eq_of_mem_set h1 with h2 | h2
      · exact .inl h2
      · exact .inr (.inl h2)
    · exact .inr (.inr h1)
  refine ⟨fun c' hc' => ?_, fun c' hc' x hx => ?_, by rw [partC_total h]; exact hf.total, by rw [partC_length h]; omega⟩
  · have := hf.chunk c hm
    rcases key c' hc' with h1 | rfl | rfl
    · exact hf.chunk c' h1
    · rw [List.length_take]; omega
    · rw [List.length_drop]; omega
  · rcases key c' hc' with h1 | rfl | rfl
    · exact hf.text c' h1 x hx
    · exact hf.text c hm x (List.mem_of_mem_take hx)
    · exact hf.text c hm x (List.mem_of_mem_drop hx)
end Pantry
namespace Go.Proofs.Ytefoieloakfhfaa
open Go.RowKit Pantry

theorem DeqAt.split {w w5 w6 : World} {d : Nat} {v v' : Value} {gs : List Nat} {cs : List (List Txt)} (h : DeqAt w d v gs cs) {k g H : Nat} {c : List Txt} (hk : cs[k]? = some c) (hgk : gs[k]? = some g) (hH : w.heap.size ≤ H)
    (hc5 : Chg (fun j => v.ownBlock = some j ∨ j = g) w w5) (h5g : ChunkAt w5 g (c.take 16)) (h5H : ChunkAt w5 H (c.drop 16))
    (hrow : w5.ownsRow 0 67 1 v' (cs.length + 1) (putIn (gs.map ptr) (k + 1) (ptr H))) (hv : ∀ j, v'.ownBlock = some j → v.ownBlock = some j ∨ w.heap.size ≤ j ∧ j ≠ H)
    (hu : Upd d (.cells #[v', .int .i64 (total cs : Nat), .int .i64 (costOf cs : Nat)] 62) w5 w6) : DeqAt w6 d v' (putIn gs (k + 1) H) (partC k c cs) := by
  have hl := h.len
  have hkl := (List.getElem?_eq_some_iff.1 hk).1
  have hdl := h.lt d (.inl rfl)
  have hHd : H ≠ d := by omega
  have hgl : ∀ j ∈ gs, j < w.heap.size := fun j hj => h.lt j (.inr (.inl hj))
  refine ⟨by rw [partC_total hk, partC_cost hk]; exact hu.here, ?_, ?_, putIn_nodup (k + 1) h.nodup fun hm => absurd (hgl H hm) (by omega), ?_, ?_, ?_⟩
  · rw [partC_length hk, putIn_map]
    refine Chg.ownsRow hrow hu.chg fun j hj e => ?_
    subst e
    rcases hv _ hj with h1 | h1
    · exact h.rowd h1
    · omega
  · intro i gi ci hi hci
    rw [putIn_get (by omega)] at hi
    rw [partC_get hk] at hci
    have key : (gi ∈ gs ∧ gi ≠ g ∧ ChunkAt w gi ci) ∨ (gi = g ∧ ci = c.take 16) ∨ gi = H ∧ ci = c.drop 16 := by
      by_cases h1 : i = k
      · subst h1
        rw [if_pos (by omega), hgk] at hi
        rw [if_pos rfl] at hci
        cases hi; cases hci
        exact .inr (.inl ⟨rfl, rfl⟩)
      · rw [if_neg h1] at hci
        by_cases h2 : i = k + 1
        · rw [if_neg (by omega), if_pos h2] at hi
          rw [if_pos h2] at hci
          cases hi; cases hci
          exact .inr (.inr ⟨rfl, rfl⟩)
        · rw [if_neg h2] at hci
          by_cases h3 : i < k
          · rw [if_pos (by omega)] at hi
            rw [if_pos h3] at hci
            exact .inl ⟨List.mem_of_getElem? hi, fun e => h1 (nodup_inj h.nodup (by rw [hi, e]) hgk), h.chunk _ _ _ hi hci⟩
          · rw [if_neg (by omega), if_neg h2] at hi
            rw [if_neg h3] at hci
            exact .inl ⟨List.mem_of_getElem? hi, fun e => by have := nodup_inj h.nodup (show gs[i - 1]? = some g by rw [hi, e]) hgk; omega, h.chunk _ _ _ hi hci⟩
    have hgd : ∀ j ∈ gs, j ≠ d := fun j hj e => h.notd (by rw [← e]; exact hj)
    rcases key with ⟨hm, hne, hca⟩ | ⟨rfl, rfl⟩ | ⟨rfl, rfl⟩
    · unfold ChunkAt
      rw [hu.other gi (hgd gi hm)]
      exact hc5.heap hca (by rintro (e | e); exact h.rowg _ e hm; exact hne e)
    · unfold ChunkAt
      rw [hu.other gi (hgd gi (List.mem_of_getElem? hgk))]
      exact h5g
    · unfold ChunkAt
      rw [hu.other gi hHd]
      exact h5H
  · intro hm
    rcases putIn_mem hm with hm | hm
    · exact h.notd hm
    · omega
  · intro e
    rcases hv d e with h1 | h1
    · exact h.rowd h1
    · omega
  · intro j hj hm
    rcases hv j hj with h1 | h1
    · rcases putIn_mem hm with hm | hm
      · exact h.rowg j h1 hm
      · have := h.lt j (.inr (.inr h1)); omega
    · rcases putIn_mem hm with hm | hm
      · have := hgl j hm; omega
      · exact h1.2 hm
/-- A new chunk as its literal lays it: 16 texts, all empty. -/
def rawHalf : List Value := List.replicate 32 (.string ⟨#[]⟩) ++ [.int .i64 16]
theorem rawLit : rawHalf.toArray = #[.string ⟨#[]⟩, .string ⟨#[]⟩, .string ⟨#[]⟩, .string ⟨#[]⟩, .string ⟨#[]⟩, .string ⟨#[]⟩, .string ⟨#[]⟩, .string ⟨#[]⟩, .string ⟨#[]⟩, .string ⟨#[]⟩, .string ⟨#[]⟩, .string ⟨#[]⟩, .string ⟨#[]⟩, .string ⟨#[]⟩, .string ⟨#[]⟩, .string ⟨#[]⟩,
    .string ⟨#[]⟩, .string ⟨#[]⟩, .string ⟨#[]⟩, .string ⟨#[]⟩, .string ⟨#[]⟩, .string ⟨#[]⟩, .string ⟨#[]⟩, .string ⟨#[]⟩, .string ⟨#[]⟩, .string ⟨#[]⟩, .string ⟨#[]⟩, .string ⟨#[]⟩, .string ⟨#[]⟩, .string ⟨#[]⟩, .string ⟨#[]⟩, .string ⟨#[]⟩, .int .i64 16] := rfl
theorem raw_copy {c : List Txt} (h : c.length = 16) : splice rawHalf 0 (txts c) = chunkL c := by
  unfold splice rawHalf chunkL
  rw [txts_length, h]
  simp
end Go.Proofs.Ytefoieloakfhfaa

/- Insert where a chunk of 32 is parted: the walk. -/
namespace Go.Proofs.Ytefoieloakfhfaa
open Go.RowKit Pantry

set_option maxHeartbeats 8000000 in
set_option maxRecDepth 100000 in
theorem ins_split (w : World) (d : Nat) (v : Value) (gs : List Nat) (cs : List (List Txt)) (i : Nat) (s : Txt) (k p : Nat) (c : List Txt) (h : DeqAt w d v gs cs) (hf : Fits cs) (hrows : cs.length ≤ 1048576) (hne : cs ≠ []) (hi : i ≤ total cs) (ht0 : 0 < total cs) (hs : s.length ≤ 1048576) (ht : total cs < 1048576)
    (hkp : findC cs i = (k, p)) (h1 : cs[k]? = some c) (hc : c.length = 32) (hp : p ≤ c.length) :
    Calls Try.prog 15 #[.pointer (some ⟨d, 0, none⟩), .int .i64 i, .string ⟨s.toArray⟩] w
      (DeqPost d v gs (if 16 ≤ p then (partC k c cs).set (k + 1) (insAt (c.drop 16) (p - 16) s) else (partC k c cs).set k (insAt (c.take 16) p s)) (.int .i64 0) w) := by
  have HR := Lib.hid (refused_no w d v gs cs s h hs ht)
  have hfind := find_any w d v gs cs i h hf hne (by omega)
  rw [hkp] at hfind
  have HFIND := Lib.hid hfind
  obtain ⟨g, sb, cap, hg, hv, hkl, hnc, hcell, hch⟩ := h.at h1
  have hn := hch.n (by omega)
  rw [hc] at hn
  obtain ⟨⟨d0, d1, -⟩, -⟩ := three h.head
  have hrl := hf.rows
  have hgw := block_lt hch
  have hgd : g ≠ d := fun e => h.notd (by rw [← e]; exact List.mem_of_getElem? hg)
  -- the new half, and the copy into it
  obtain ⟨W1, hW1⟩ : ∃ W1, w.alloc (.cells rawHalf.toArray 66) = W1 := ⟨_, rfl⟩
  have HW1 := Lib.hid (show w.alloc (.cells #[.string ⟨#[]⟩, .string ⟨#[]⟩, .string ⟨#[]⟩, .string ⟨#[]⟩, .string ⟨#[]⟩, .string ⟨#[]⟩, .string ⟨#[]⟩, .string ⟨#[]⟩, .string ⟨#[]⟩, .string ⟨#[]⟩, .string ⟨#[]⟩, .string ⟨#[]⟩, .string ⟨#[]⟩, .string ⟨#[]⟩, .string ⟨#[]⟩, .string ⟨#[]⟩,
    .string ⟨#[]⟩, .string ⟨#[]⟩, .string ⟨#[]⟩, .string ⟨#[]⟩, .string ⟨#[]⟩, .string ⟨#[]⟩, .string ⟨#[]⟩, .string ⟨#[]⟩, .string ⟨#[]⟩, .string ⟨#[]⟩, .string ⟨#[]⟩, .string ⟨#[]⟩, .string ⟨#[]⟩, .string ⟨#[]⟩, .string ⟨#[]⟩, .string ⟨#[]⟩, .int .i64 16] 66) = W1 by rw [← rawLit]; exact hW1)
  have hs1 : W1.heap.size = w.heap.size + 1 := by rw [← hW1]; simp
  have hH1 : W1.heap[w.heap.size]? = some (.cells rawHalf.toArray 66) := by rw [← hW1]; exact heap_alloc_new w _
  have hch1 : ChunkAt W1 g c := by unfold ChunkAt; rw [← hW1, Below.heap_alloc w _ g hgw]; exact hch
  have hcg1 : Chg (fun _ => False) w W1 := by rw [← hW1]; exact (Chg.refl _ w).alloc _
  have hd16 : (c.drop 16).length = 16 := by rw [List.length_drop, hc]
  have hcp : ∀ ty dc sc, (Builtin.copy_ #[22, 22] ty #[.slice (some ⟨w.heap.size, 0, none⟩) 32 dc, .slice (some ⟨g, 16, none⟩) 16 sc]).run Try.prog W1.drew = .ok (goInt (Nat.min 16 32)) (W1.drew.setRow w.heap.size (splice rawHalf 0 (txts (c.drop 16))).toArray) := fun ty dc sc =>
    run_copy_gen W1.drew 22 22 ty 9 w.heap.size 0 32 dc ⟨g, 16, none⟩ 16 sc rawHalf 66 (txts (c.drop 16)) 1 Try.underlying22 strSize hH1 (by rw [txts_length, hd16]; rfl)
      (fun j u hj => by
        rw [Addr.add_lit]
        show W1.cell? _ = _
        rw [cell_of_row W1 g _ _ _ _ hch1, ← Array.getElem?_toList, List.toList_toArray]
        rw [txts_get, List.getElem?_drop] at hj
        cases hx : c[16 + j]? with
        | none => rw [hx] at hj; cases hj
        | some x => rw [hx] at hj; cases hj; exact chunkL_text hx)
      (by rw [txts_length, hd16]; decide) (txts_one _)
  rw [raw_copy hd16] at hcp
  obtain ⟨W2, hW2⟩ : ∃ W2, W1.drew.setRow w.heap.size (chunkL (c.drop 16)).toArray = W2 := ⟨_, rfl⟩
  have hU2 : Upd w.heap.size (.cells (chunkL (c.drop 16)).toArray 66) W1 W2 := by rw [← hW2]; exact (Upd.same hH1).drew.setRow _
  rw [hW2] at hcp
  clear hW2 hW1
  have hch2 : ChunkAt W2 g c := (hU2.other g (by omega)).trans hch1
  have hn2 := hch2.n (by omega)
  rw [hc] at hn2
  -- the cut
  have hcut := cut_any W2 g 16 32 c hch2 (by omega) (by omega) (by omega)
  rw [List.drop_eq_nil_of_le (i := 32) (by omega), List.append_nil] at hcut
  rw [show ((16 : Nat) : Int) = 16 from rfl, show ((32 : Nat) : Int) = 32 from rfl] at hcut
  have HCUT := Lib.hid hcut
  -- behind the cut
  have HNEXT := Lib.hid (fun (W3 : World) (hU3 : Upd g (.cells (chunkL (c.take 16)).toArray 66) W2 W3) =>
    show W3.heap.size = w.heap.size + 1 ∧ W3.heap[d]? = some (.cells #[v, .int .i64 (total cs : Nat), .int .i64 (costOf cs : Nat)] 62) ∧
      Calls Try.prog 34 #[v, .int .i64 ((k : Int) + 1), .slice (some ⟨w.heap.size + 1, 0, none⟩) 1 1] (W3.alloc (.cells #[.pointer (some ⟨w.heap.size, 0, none⟩)] 67)) (fun e w5 => ∃ v', e = .returned v' ∧ (∃ sb' cap', v' = .slice (some ⟨sb', 0, none⟩) (cs.length + 1) cap') ∧
        w5.heap[d]? = some (.cells #[v, .int .i64 (total cs : Nat), .int .i64 (costOf cs : Nat)] 62) ∧ DeqAt (w5.setCell ⟨d, 0, none⟩ v') d v' (putIn gs (k + 1) w.heap.size) (partC k c cs) ∧ Chg (Foot d v gs) w (w5.setCell ⟨d, 0, none⟩ v') ∧ ∀ q, Foot d v' (putIn gs (k + 1) w.heap.size) q → Foot d v gs q ∨ w.heap.size ≤ q) from by
    have hsz3 : W3.heap.size = w.heap.size + 1 := by rw [hU3.size, hU2.size, hs1]
    have hcg3 : Chg (fun j => j = g) w W3 := ((hcg1.mono fun _ _ e => e.elim).trans (hU2.chg.mono (T := fun j => j = w.heap.size) fun _ _ e => e) (fun j hj e => by omega)).trans hU3.chg fun _ _ e => e
    have hgsb : ∀ j, v.ownBlock = some j → ¬ j = g := fun j hj e => h.rowg j hj (by rw [e]; exact List.mem_of_getElem? hg)
    have hd3 := hcg3.heap h.head (fun e => hgd e.symm)
    refine ⟨hsz3, hd3, ?_⟩
    obtain ⟨W4, hW4⟩ : ∃ W4, W3.alloc (.cells #[.pointer (some ⟨w.heap.size, 0, none⟩)] 67) = W4 := ⟨_, rfl⟩
    have hsz4 : W4.heap.size = w.heap.size + 2 := by rw [← hW4]; simp [hsz3]
    have hcg34 : Chg (fun _ => False) W3 W4 := by rw [← hW4]; exact (Chg.refl _ W3).alloc _
    have hown4 := Chg.ownsRow (Chg.ownsRow h.row hcg3 hgsb) hcg34 fun _ _ h => h
    have hvb4 : W4.heap[w.heap.size + 1]? = some (.cells #[ptr w.heap.size] 67) := by rw [← hW4, ← hsz3]; exact heap_alloc_new W3 _
    have hg3 : W3.heap[g]? = some (.cells (chunkL (c.take 16)).toArray 66) := hU3.here
    have hH3 : W3.heap[w.heap.size]? = some (.cells (chunkL (c.drop 16)).toArray 66) := (hU3.other w.heap.size (by omega)).trans hU2.here
    rw [hW4]
    refine (insert_any W4 0 (w.heap.size + 1) (k + 1) cs.length v (ptr w.heap.size) (gs.map ptr) hown4 hvb4 (fun e => by have := h.lt _ (.inr (.inr e)); omega) (Nat.zero_le _) hkl (by omega) (ptr_one gs) rfl).mono ?_
    rintro e w5 ⟨v', rfl, r1, r2, r3⟩
    obtain ⟨sb', cap', hv', -⟩ := ownsRow_some r1
    have hcg45 : Chg (fun j => v.ownBlock = some j) W4 w5 := Chg.of_grown r2 fun q e => e
    have hcg5 : Chg (fun j => v.ownBlock = some j ∨ j = g) w w5 := ((hcg3.mono fun _ _ e => .inr e).trans (hcg34.mono fun _ _ e => e.elim) fun _ _ e => e).trans (hcg45.mono fun _ _ e => .inl e) fun _ _ e => e
    have hno : ∀ j, v.ownBlock = some j → j < w.heap.size := fun j hj => h.lt j (.inr (.inr hj))
    have hd5 := hcg5.heap h.head (by rintro (e | e); exact h.rowd e; exact hgd e.symm)
    have hU6 := (Upd.same hd5).setCell 0 v'
    have hsp := h.split h1 hg (Nat.le_refl _) hcg5 (hcg45.heap (hcg34.heap hg3 id) fun e => h.rowg g e (List.mem_of_getElem? hg)) (hcg45.heap (hcg34.heap hH3 id) fun e => by have := hno _ e; omega) r1 (fun j hj => by
      rcases r3 j hj with e | e
      · exact .inl e
      · exact .inr ⟨by omega, by omega⟩) hU6
    refine ⟨v', rfl, ⟨sb', cap', hv'⟩, hd5, hsp, (hcg5.mono fun j _ e => ?_).trans hU6.chg (fun j _ e => .inl e), fun q hq => ?_⟩
    · rcases e with e | rfl
      · exact .inr (.inr e)
      · exact .inr (.inl (List.mem_of_getElem? hg))
    · rcases hq with rfl | hq | hq
      · exact .inl (.inl rfl)
      · rcases putIn_mem hq with hq | rfl
        · exact .inl (.inr (.inl hq))
        · exact .inr (Nat.le_refl _)
      · rcases r3 q hq with e | e
        · exact .inl (.inr (.inr e))
        · exact .inr (by omega))
  have HLAY1 := Lib.hid (fun (w6 : World) (v' : Value) (hin : DeqAt w6 d v' (putIn gs (k + 1) w.heap.size) (partC k c cs)) (hp16 : 16 ≤ p) =>
    lay_any w6 d v' _ _ (k + 1) (p - 16) (c.drop 16) s hin (by rw [partC_get h1, if_neg (by omega), if_pos rfl]) (by omega) (by omega) (partC_fits h1 hf hrows) (by rw [partC_total h1]; exact ht) hs)
  have HLAY2 := Lib.hid (fun (w6 : World) (v' : Value) (hin : DeqAt w6 d v' (putIn gs (k + 1) w.heap.size) (partC k c cs)) (hp16 : p < 16) =>
    lay_any w6 d v' _ _ k p (c.take 16) s hin (by rw [partC_get h1, if_pos rfl]) (by rw [List.length_take]; omega) (by rw [List.length_take]; omega) (partC_fits h1 hf hrows) (by rw [partC_total h1]; exact ht) hs)
  subst hv
  obtain ⟨m, hm⟩ : ∃ m, cs.length = m := ⟨_, rfl⟩
  obtain ⟨N, hN⟩ : ∃ N, total cs = N := ⟨_, rfl⟩
  rw [hm] at hkl hnc d0 hrl HNEXT ⊢
  rw [hN] at d1 hi ht0 HNEXT
  clear h hf h1 hg hch hm hN hkp hfind hne hch1 hch2 hcg1 hH1 hU2 hcut hd16 hrows
  have hN0 : ((N : Int) == 0) = false := by rw [beq_eq_false_iff_ne]; omega
  have hiN : (i : Int) ≤ (N : Int) := by omega
  have hkm : (k : Int) < (m : Int) := by omega
  rw [hc] at hp
  clear hc
  by_cases hp16 : 16 ≤ p
  · obtain ⟨q, rfl⟩ : ∃ q, p = q + 16 := ⟨p - 16, by omega⟩
    rw [if_pos hp16]
    rw [Nat.add_sub_cancel] at HLAY1 ⊢
    rw [show ((q + 16 : Nat) : Int) = (q : Int) + 16 from rfl] at HFIND
    rw [show ((k + 1 : Nat) : Int) = (k : Int) + 1 from rfl] at HLAY1
    clear HLAY2
    go_enter Try.func15, Try.ntmps15
    go_wp2_with fail
    refine HR.out.mono ?_
    rintro e w' ⟨rfl, rfl⟩
    go_wp2_with fail
    refine HFIND.out.mono ?_
    rintro e w' ⟨rfl, rfl⟩
    go_upto_region 14 with fail
    rw [HW1.out]
    go_region
    all_goals
      go_wp2_with fail
      refine HCUT.out.mono ?_
      rintro e W3 ⟨rfl, hU3⟩
      obtain ⟨hz3, hd3, hins⟩ := HNEXT.out W3 hU3
      obtain ⟨⟨e0, -, -⟩, -⟩ := three hd3
      have HINS := Lib.hid hins
      have HZ3 := Lib.hid hz3
      clear hd3 hins hU3 hz3
      go_wp2_with fail
      rw [HZ3.out]
      refine HINS.out.mono ?_
      rintro e w5 ⟨v', rfl, ⟨sb', cap', rfl⟩, hd5, hin, hcg, hft⟩
      obtain ⟨⟨f0, -, -⟩, ff⟩ := three hd5
      have ff0 := ff 0
      have HLAY := Lib.hid (HLAY1.out _ _ hin hp16)
      have HEND := Lib.hid (fun (w' : World) (hd : DeqAt w' d (.slice (some ⟨sb', 0, none⟩) (m + 1) cap') (putIn gs (k + 1) w.heap.size) ((partC k c cs).set (k + 1) (insAt (c.drop 16) q s))) (hc : Chg (Foot d (.slice (some ⟨sb', 0, none⟩) (m + 1) cap') (putIn gs (k + 1) w.heap.size)) (w5.setCell ⟨d, 0, none⟩ (.slice (some ⟨sb', 0, none⟩) (m + 1) cap')) w') =>
        show DeqPost d (.slice (some ⟨sb, 0, none⟩) m cap) gs ((partC k c cs).set (k + 1) (insAt (c.drop 16) q s)) (.int .i64 0) w (.returned (.int .i64 0)) w' from
          ⟨_, _, rfl, hd, hcg.trans hc fun j hj hk => (hft j hk).resolve_right (by omega), hft⟩)
      clear hd5 hin hcg hft ff HINS HNEXT HCUT HLAY1 HFIND HR
      go_upto_region 17 with fail
      obtain ⟨w6, hw6⟩ : ∃ w6, w5.setCell ⟨d, 0, none⟩ (.slice (some ⟨sb', 0, none⟩) (m + 1) cap') = w6 := ⟨_, rfl⟩
      rw [hw6] at HLAY HEND ⊢
      clear hw6 f0 ff0
      go_wp2_with fail
      refine HLAY.out.mono ?_
      rintro e w' ⟨rfl, hd, hc⟩
      have HE := Lib.hid (HEND.out _ hd hc)
      clear hd hc HEND
      go_wp2_with fail
      go_ret
      exact HE.out
  · have hp2 : p < 16 := by omega
    rw [if_neg hp16]
    clear HLAY1
    go_enter Try.func15, Try.ntmps15
    go_wp2_with fail
    refine HR.out.mono ?_
    rintro e w' ⟨rfl, rfl⟩
    go_wp2_with fail
    refine HFIND.out.mono ?_
    rintro e w' ⟨rfl, rfl⟩
    go_upto_region 14 with fail
    rw [HW1.out]
    go_region
    all_goals
      go_wp2_with fail
      refine HCUT.out.mono ?_
      rintro e W3 ⟨rfl, hU3⟩
      obtain ⟨hz3, hd3, hins⟩ := HNEXT.out W3 hU3
      obtain ⟨⟨e0, -, -⟩, -⟩ := three hd3
      have HINS := Lib.hid hins
      have HZ3 := Lib.hid hz3
      clear hd3 hins hU3 hz3
      go_wp2_with fail
      rw [HZ3.out]
      refine HINS.out.mono ?_
      rintro e w5 ⟨v', rfl, ⟨sb', cap', rfl⟩, hd5, hin, hcg, hft⟩
      obtain ⟨⟨f0, -, -⟩, ff⟩ := three hd5
      have ff0 := ff 0
      have HLAY := Lib.hid (HLAY2.out _ _ hin hp2)
      have HEND := Lib.hid (fun (w' : World) (hd : DeqAt w' d (.slice (some ⟨sb', 0, none⟩) (m + 1) cap') (putIn gs (k + 1) w.heap.size) ((partC k c cs).set k (insAt (c.take 16) p s))) (hc : Chg (Foot d (.slice (some ⟨sb', 0, none⟩) (m + 1) cap') (putIn gs (k + 1) w.heap.size)) (w5.setCell ⟨d, 0, none⟩ (.slice (some ⟨sb', 0, none⟩) (m + 1) cap')) w') =>
        show DeqPost d (.slice (some ⟨sb, 0, none⟩) m cap) gs ((partC k c cs).set k (insAt (c.take 16) p s)) (.int .i64 0) w (.returned (.int .i64 0)) w' from
          ⟨_, _, rfl, hd, hcg.trans hc fun j hj hk => (hft j hk).resolve_right (by omega), hft⟩)
      clear hd5 hin hcg hft ff HINS HNEXT HCUT HLAY2 HFIND HR
      go_upto_region 17 with fail
      obtain ⟨w6, hw6⟩ : ∃ w6, w5.setCell ⟨d, 0, none⟩ (.slice (some ⟨sb', 0, none⟩) (m + 1) cap') = w6 := ⟨_, rfl⟩
      rw [hw6] at HLAY HEND ⊢
      clear hw6 f0 ff0
      go_wp2_with fail
      refine HLAY.out.mono ?_
      rintro e w' ⟨rfl, hd, hc⟩
      have HE := Lib.hid (HEND.out _ hd hc)
      clear hd hc HEND
      go_wp2_with fail
      go_ret
      exact HE.out
end Go.Proofs.Ytefoieloakfhfaa

/- Insert, whole. -/
namespace Pantry
theorem partC_flatten {cs : List (List Txt)} {k : Nat} {c : List Txt} (h : cs[k]? = some c) : (partC k c cs).flatten = cs.flatten := by
  have hk := (List.getElem?_eq_some_iff.1 h).1
  unfold partC
  rw [putIn_flatten, List.take_set, List.drop_set_of_lt (by omega), at_flatten h]
  have e : ((cs.take (k + 1)).set k (c.take 16)).flatten = (cs.take k).flatten ++ c.take 16 := by
    rw [set_flatten (c := c) (by rw [List.getElem?_take, if_pos (by omega)]; exact h)]
    rw [List.take_take, Nat.min_eq_left (by omega), List.drop_eq_nil_of_le (by rw [List.length_take]; omega)]
    simp
  rw [e]
  have e2 : c.take 16 ++ c.drop 16 = c := List.take_append_drop 16 c
  conv => rhs; rw [← e2]
  simp
theorem lay_row {cs : List (List Txt)} {k p : Nat} {c : List Txt} (h : cs[k]? = some c) (hp : p ≤ c.length) (s : Txt) : (cs.set k (insAt c p s)).flatten = putIn cs.flatten (total (cs.take k) + p) s := by
  have hT : (cs.take k).flatten.length = total (cs.take k) := flatten_length _
  rw [set_flatten h]
  have hf := at_flatten h
  rw [List.append_assoc] at hf
  unfold putIn insAt
  rw [hf, ← hT]
  rw [List.take_length_add_append, List.drop_length_add_append, List.take_append_of_le_length hp, List.drop_append_of_le_length hp]
  simp
theorem partC_take {cs : List (List Txt)} {k : Nat} {c : List Txt} (h : cs[k]? = some c) : total ((partC k c cs).take k) = total (cs.take k) ∧ (16 ≤ c.length → total ((partC k c cs).take (k + 1)) = total (cs.take k) + 16) := by
  have hk := (List.getElem?_eq_some_iff.1 h).1
  have h1 : (partC k c cs).take k = cs.take k := by
    apply List.ext_getElem?
    intro j
    rw [List.getElem?_take, List.getElem?_take]
    by_cases hj : j < k
    · rw [if_pos hj, if_pos hj, partC_get h, if_neg (by omega), if_neg (by omega), if_pos hj]
    · rw [if_neg hj, if_neg hj]
  refine ⟨by rw [h1], fun h16 => ?_⟩
  have h2 : (partC k c cs).take (k + 1) = cs.take k ++ [c.take 16] := by
    rw [List.take_add_one, h1, partC_get h, if_pos rfl]
    rfl
  rw [h2]
  simp [total]; omega
theorem insC_row {cs : List (List Txt)} (hg : DGood cs) {i : Nat} (hi : i ≤ total cs) (s : Txt) : (insC i s cs).flatten = putIn cs.flatten i s := by
  by_cases hne : cs = []
  · subst hne
    have : i = 0 := by simp [total] at hi; exact hi
    subst this
    simp [insC, findC, pushC, putIn]
  · obtain ⟨c, h1, h2, h3, h4⟩ := findC_spec hne hi
    unfold insC
    rw [h1]
    simp only
    obtain ⟨⟨k, p⟩, hkp⟩ : ∃ q, findC cs i = q := ⟨_, rfl⟩
    rw [hkp] at h1 h2 h3 ⊢
    simp only at h1 h2 h3 ⊢
    by_cases h32 : c.length = 32
    · rw [if_pos h32]
      obtain ⟨t1, t2⟩ := partC_take h1
      by_cases hp : 16 ≤ p
      · rw [if_pos hp, lay_row (by rw [partC_get h1, if_neg (by omega), if_pos rfl]) (by rw [List.length_drop]; omega), partC_flatten h1, t2 (by omega)]
        congr 1; omega
      · rw [if_neg hp, lay_row (by rw [partC_get h1, if_pos rfl]) (by rw [List.length_take]; omega), partC_flatten h1, t1, h3]
    · rw [if_neg h32, lay_row h1 h2, h3]
theorem DGood.ins {cs : List (List Txt)} (h : DGood cs) {i : Nat} {s : Txt} (hi : i ≤ total cs) (hs : s.length ≤ 1048576) (ht : Pantry.total cs < 1048576) : DGood (insC i s cs) := by
  by_cases hne : cs = []
  · subst hne
    simp only [insC, findC]
    exact DGood.push DGood.nil true hs ht
  · obtain ⟨c, h1, h2, h3, h4⟩ := findC_spec hne hi
    unfold insC
    rw [h1]
    simp only
    obtain ⟨⟨k, p⟩, hkp⟩ : ∃ q, findC cs i = q := ⟨_, rfl⟩
    rw [hkp] at h1 h2 ⊢
    simp only at h1 h2 ⊢
    have hc := h.chunk c (List.mem_of_getElem? h1)
    by_cases h32 : c.length = 32
    · rw [if_pos h32]
      have hr := h.rows_le
      have hpg : DGood (partC k c cs) := ⟨partC_fits h1 h.toFits (by omega), fun c' hc' => by
        rcases putIn_mem hc' with h5 | h5
        · rcases set_mem h5 with h6 | h6
          · exact h.some_ c' h6
          · rw [h6]; intro e; have hl : (c.take 16).length = 16 := by rw [List.length_take]; omega
            rw [e] at hl; simp at hl
        · rw [h5]; intro e; have hl : (c.drop 16).length = 16 := by rw [List.length_drop]; omega
          rw [e] at hl; simp at hl⟩
      have htt := partC_total h1
      by_cases hp : 16 ≤ p
      · rw [if_pos hp]
        exact hpg.lay (by rw [partC_get h1, if_neg (by omega), if_pos rfl]) (by rw [List.length_drop]; omega) (by rw [List.length_drop]; omega) hs (by rw [htt]; exact ht)
      · rw [if_neg hp]
        exact hpg.lay (by rw [partC_get h1, if_pos rfl]) (by rw [List.length_take]; omega) (by rw [List.length_take]; omega) hs (by rw [htt]; exact ht)
    · rw [if_neg h32]
      exact h.lay h1 h2 (by omega) hs ht
end Pantry
namespace Go.Proofs.Ytefoieloakfhfaa
open Go.RowKit Pantry

theorem ins_ok (w : World) (d : Nat) (v : Value) (gs : List Nat) (cs : List (List Txt)) (i : Nat) (s : Txt) (h : DeqAt w d v gs cs) (hg : DGood cs) (hi : i ≤ total cs) (hs : s.length ≤ 1048576) (ht : total cs < 1048576) :
    Calls Try.prog 15 #[.pointer (some ⟨d, 0, none⟩), .int .i64 i, .string ⟨s.toArray⟩] w (DeqPost d v gs (insC i s cs) (.int .i64 0) w) := by
  have hr := hg.rows_le
  by_cases hne : cs = []
  · subst hne
    have : i = 0 := by simp [total] at hi; exact hi
    subst this
    simp only [insC, findC]
    exact ins_empty w d v gs s h hs
  · have ht0 : 0 < total cs := by have := List.length_pos_iff.2 hne; omega
    obtain ⟨c, h1, h2, h3, h4⟩ := findC_spec hne hi
    unfold insC
    rw [h1]
    simp only
    obtain ⟨⟨k, p⟩, hkp⟩ : ∃ q, findC cs i = q := ⟨_, rfl⟩
    rw [hkp] at h1 h2 ⊢
    simp only at h1 h2 ⊢
    have hc := hg.chunk c (List.mem_of_getElem? h1)
    by_cases h32 : c.length = 32
    · rw [if_pos h32]
      exact ins_split w d v gs cs i s k p c h hg.toFits (by omega) hne hi ht0 hs ht hkp h1 h32 h2
    · rw [if_neg h32]
      exact ins_room w d v gs cs i s k p c h hg.toFits hne hi ht0 hs ht hkp h1 (by omega) h2
end Go.Proofs.Ytefoieloakfhfaa
