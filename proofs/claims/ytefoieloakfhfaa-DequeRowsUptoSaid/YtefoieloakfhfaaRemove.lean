/- Remove. -/
import Derived.Test.YtefoieloakfhfaaTake
namespace Pantry
def dropAt {α : Type} (l : List α) (k : Nat) : List α := l.take k ++ l.drop (k + 1)
theorem dropAt_length {α : Type} {l : List α} {k : Nat} (h : k < l.length) : (dropAt l k).length + 1 = l.length := by simp [dropAt]; omega
theorem dropAt_get {α : Type} {l : List α} {k : Nat} (h : k < l.length) (j : Nat) : (dropAt l k)[j]? = if j < k then l[j]? else l[j + 1]? := by
  unfold dropAt
  by_cases h1 : j < k
  · rw [if_pos h1, List.getElem?_append_left (by rw [List.length_take]; omega), List.getElem?_take, if_pos h1]
  · rw [if_neg h1, List.getElem?_append_right (by rw [List.length_take]; omega), List.getElem?_drop, List.length_take]
    congr 1; omega
theorem dropAt_mem {α : Type} {l : List α} {k : Nat} {x : α} (h : x ∈ dropAt l k) : x ∈ l := by
  simp only [dropAt, List.mem_append] at h
  rcases h with h | h
  · exact List.mem_of_mem_take h
  · exact List.mem_of_mem_drop h
theorem dropAt_sub {α : Type} (l : List α) (k : Nat) : (dropAt l k).Sublist l := by
  have h : l.take k ++ l.drop k = l := List.take_append_drop k l
  conv => rhs; rw [← h]
  unfold dropAt
  refine List.Sublist.append (List.Sublist.refl _) ?_
  rw [show l.drop (k + 1) = (l.drop k).drop 1 by rw [List.drop_drop]]
  exact List.drop_sublist _ _
theorem dropAt_map {α β : Type} (f : α → β) (l : List α) (k : Nat) : (dropAt l k).map f = dropAt (l.map f) k := by simp [dropAt, List.map_take, List.map_drop]
theorem sum_dropAt {α : Type} {f : α → Nat} {l : List α} {k : Nat} {x : α} (h : l[k]? = some x) : ((dropAt l k).map f).sum + f x = (l.map f).sum := by
  obtain ⟨hk, rfl⟩ := List.getElem?_eq_some_iff.1 h
  have h : l.take k ++ l.drop k = l := List.take_append_drop k l
  have e : (l.map f).sum = ((l.take k).map f).sum + ((l.drop k).map f).sum := by rw [← List.sum_append, ← List.map_append, h]
  rw [e, List.drop_eq_getElem_cons hk]
  simp only [dropAt, List.map_append, List.sum_append, List.map_cons, List.sum_cons]
  omega
/-- Remove, on the chunks. -/
def removeC (i : Nat) (cs : List (List Txt)) : List (List Txt) :=
  match cs[(findC cs i).1]? with
  | none => cs
  | some c => if (dropAt c (findC cs i).2).isEmpty then dropAt cs (findC cs i).1 else cs.set (findC cs i).1 (dropAt c (findC cs i).2)
end Pantry
namespace Go.Proofs.Ytefoieloakfhfaa
open Go.RowKit Pantry

/-- An empty chunk has gone: the row is cut, the head is not told of it yet. -/
theorem DeqAt.removed {w w3 w4 : World} {d : Nat} {v v' : Value} {gs : List Nat} {cs : List (List Txt)} (h : DeqAt w d v gs cs) {k : Nat} (hk : cs[k]? = some [])
    (hc : Chg (fun j => v.ownBlock = some j) w w3) (hrow : w3.ownsRow 0 67 1 v' (dropAt cs k).length ((dropAt gs k).map ptr)) (hv : ∀ j, v'.ownBlock = some j → v.ownBlock = some j ∨ w.heap.size ≤ j)
    (hu : Upd d (.cells #[v', .int .i64 (total cs : Nat), .int .i64 (costOf cs : Nat)] 62) w3 w4) : DeqAt w4 d v' (dropAt gs k) (dropAt cs k) ∧ total (dropAt cs k) = total cs ∧ costOf (dropAt cs k) = costOf cs := by
  have hl := h.len
  have hkl := (List.getElem?_eq_some_iff.1 hk).1
  have ht : total (dropAt cs k) = total cs := by have := sum_dropAt (f := fun c : List Txt => c.length) hk; simpa [total] using this
  have hco : costOf (dropAt cs k) = costOf cs := by have := sum_dropAt (f := fun c : List Txt => (c.map fun x : Txt => 16 + x.length).sum) hk; simpa [costOf] using this
  refine ⟨⟨by rw [ht, hco]; exact hu.here, ?_, ?_, h.nodup.sublist (dropAt_sub gs k), fun hm => h.notd (dropAt_mem hm), ?_, ?_⟩, ht, hco⟩
  · refine Chg.ownsRow hrow hu.chg fun j hj e => ?_
    subst e
    rcases hv _ hj with h1 | h1
    · exact h.rowd h1
    · have := h.lt j (.inl rfl); omega
  · intro i gi ci hi hci
    rw [dropAt_get (by omega)] at hi
    rw [dropAt_get hkl] at hci
    have key : gi ∈ gs ∧ ChunkAt w gi ci := by
      by_cases h1 : i < k
      · rw [if_pos h1] at hi hci; exact ⟨List.mem_of_getElem? hi, h.chunk _ _ _ hi hci⟩
      · rw [if_neg h1] at hi hci; exact ⟨List.mem_of_getElem? hi, h.chunk _ _ _ hi hci⟩
    have hne : gi ≠ d := fun e => h.notd (by rw [← e]; exact key.1)
    unfold ChunkAt
    rw [hu.other gi hne]
    exact hc.heap key.2 fun e => h.rowg _ e key.1
  · intro e
    rcases hv d e with h1 | h1
    · exact h.rowd h1
    · have := h.lt d (.inl rfl); omega
  · intro j hj hm
    rcases hv j hj with h1 | h1
    · exact h.rowg j h1 (dropAt_mem hm)
    · have := h.lt j (.inr (.inl (dropAt_mem hm))); omega

set_option maxHeartbeats 8000000 in
set_option maxRecDepth 100000 in
theorem remove_in (w : World) (d : Nat) (v : Value) (gs : List Nat) (cs : List (List Txt)) (i : Nat) (h : DeqAt w d v gs cs) (hf : Fits cs) (hi : i < total cs) :
    Calls Try.prog 18 #[.pointer (some ⟨d, 0, none⟩), .int .i64 i] w (DeqPost d v gs (removeC i cs) (.bool true) w) := by
  have hne : cs ≠ [] := by rintro rfl; simp [total] at hi
  have HLEN := Lib.hid (len_any w d v gs cs h)
  have hfind := find_any w d v gs cs i h hf hne (by have := hf.total; omega)
  obtain ⟨c, h1, h2, h3, h4⟩ := findC_spec hne (Nat.le_of_lt hi)
  have h4 := h4 hi
  unfold removeC
  obtain ⟨⟨k, p⟩, hkp⟩ : ∃ q, findC cs i = q := ⟨_, rfl⟩
  rw [hkp] at h1 h2 h4 hfind ⊢
  simp only at h1 h2 h4 hfind ⊢
  rw [h1]
  simp only
  have HFIND := Lib.hid hfind
  have hc32 := hf.chunk c (List.mem_of_getElem? h1)
  have HTAKE := Lib.hid (take_any w d v gs cs k p (p + 1) c h hf h1 (by omega) (by omega))
  have hkl := (List.getElem?_eq_some_iff.1 h1).1
  have hset : (cs.set k (dropAt c p))[k]? = some (dropAt c p) := by rw [List.getElem?_set_self hkl]
  have hrl := hf.rows
  have hit : (i : Int) < ((total cs : Nat) : Int) := by omega
  have hi0 : ¬ (i : Int) < 0 := by omega
  have hpl : p ≤ 32 := by omega
  have hdl : (dropAt c p).length ≤ 32 := by have := dropAt_length h4; omega
  clear hfind hkp h3
  by_cases he : (dropAt c p).isEmpty = true
  · rw [if_pos he]
    have he2 : dropAt c p = [] := by simpa using he
    go_enter Try.func18, Try.ntmps18
    go_upto_region 5 with (first
      | (go_at_call 16; refine HLEN.out.mono ?_; rintro e w' ⟨rfl, rfl⟩)
      | (go_at_call 36; refine HFIND.out.mono ?_; rintro e w' ⟨rfl, rfl⟩)
      | (go_at_call 38; refine HTAKE.out.mono ?_; rintro e w1 ⟨rfl, hd1, hc1⟩))
    have hd1' : DeqAt w1 d v gs (cs.set k []) := by rw [← he2]; exact hd1
    have hk1 : (cs.set k [])[k]? = some [] := by rw [List.getElem?_set_self hkl]
    obtain ⟨g, sb, cap, hg, hv, -, hnc, hcell, hch⟩ := hd1'.at hk1
    have hn := hch.n (by simp)
    have hlen : (cs.set k []).length = cs.length := List.length_set
    obtain ⟨j, hj⟩ : ∃ j, cs.length = j + 1 := ⟨cs.length - 1, by omega⟩
    rw [hlen, hj] at hv hnc
    have hrow := hd1'.row
    rw [hlen, hj] at hrow
    have HDEL := Lib.hid (delete_any w1 0 k j v (gs.map ptr) hrow (by omega) (ptr_one gs))
    obtain ⟨⟨d0, -, -⟩, -⟩ := three hd1'.head
    have HNEXT := Lib.hid (fun (v' : Value) (w2 : World) (r1 : w2.ownsRow 0 67 1 v' j ((gs.map ptr).take k ++ (gs.map ptr).drop (k + 1))) (r2 : w1.grownBy w2 v.ownBlock) (r3 : ∀ q, v'.ownBlock = some q → v.ownBlock = some q ∨ w1.heap.size ≤ q) =>
      show (∃ x y, w2.heap[d]? = some (.cells #[v, x, y] 62)) ∧ DeqPost d v gs (dropAt cs k) (.bool true) w (.returned (.bool true)) (w2.setCell ⟨d, 0, none⟩ v') from by
      have hcg : Chg (fun q => v.ownBlock = some q) w1 w2 := Chg.of_grown r2 fun q e => e
      have hd2 := hcg.heap hd1'.head (fun e => hd1'.rowd e)
      have hU := (Upd.same hd2).setCell 0 v'
      have hlenD : (dropAt (cs.set k []) k).length = j := by have := dropAt_length (l := cs.set k []) (k := k) (by rw [hlen]; exact hkl); omega
      have hrm := hd1'.removed hk1 hcg (v' := v') (by rw [hlenD, dropAt_map]; exact r1) r3 hU
      have hdd : dropAt (cs.set k []) k = dropAt cs k := by
        unfold dropAt
        rw [List.take_set_of_le (Nat.le_refl _), List.drop_set_of_lt (by omega)]
      rw [hdd] at hrm
      refine ⟨⟨_, _, hd2⟩, v', dropAt gs k, rfl, hrm.1, (hc1.trans hcg fun q _ e => .inr (.inr e)).trans hU.chg (fun q _ e => .inl e), fun q hq => ?_⟩
      rcases hq with rfl | hq | hq
      · exact .inl (.inl rfl)
      · exact .inl (.inr (.inl (dropAt_mem hq)))
      · rcases r3 q hq with e | e
        · exact .inl (.inr (.inr e))
        · exact .inr (Nat.le_trans hc1.size e))
    have hkj : (k : Int) < (j : Int) + 1 := by omega
    have hkj2 : k < j + 1 := by omega
    rw [hj] at hrl
    clear hd1 hd1' hrow hk1 hch hg hset h1 h2 h4 hc1 HTAKE hkl he he2 hlen hj h hf hi hne
    subst hv
    go_wp2_with fail
    refine HDEL.out.mono ?_
    rintro e w2 ⟨v', rfl, r1, r2, r3⟩
    obtain ⟨⟨x, y, hd2⟩, HP⟩ := HNEXT.out v' w2 r1 r2 r3
    have HPP := Lib.hid HP
    obtain ⟨a', c', rfl, -⟩ := ownsRow_rd r1 (by
      intro u hu
      rcases List.mem_append.1 hu with hu | hu
      · exact ptr_one gs u (List.mem_of_mem_take hu)
      · exact ptr_one gs u (List.mem_of_mem_drop hu))
    obtain ⟨⟨e0, -, -⟩, ef⟩ := three hd2
    have ef0 := ef 0
    clear hd2 HP r1 r2 r3 ef
    go_wp2_with fail
    go_ret
    exact HPP.out
  · rw [if_neg he]
    go_enter Try.func18, Try.ntmps18
    go_upto_region 5 with (first
      | (go_at_call 16; refine HLEN.out.mono ?_; rintro e w' ⟨rfl, rfl⟩)
      | (go_at_call 36; refine HFIND.out.mono ?_; rintro e w' ⟨rfl, rfl⟩)
      | (go_at_call 38; refine HTAKE.out.mono ?_; rintro e w1 ⟨rfl, hd1, hc1⟩))
    have hd1' : DeqAt w1 d v gs (cs.set k (dropAt c p)) := hd1
    obtain ⟨g, sb, cap, hg, hv, -, hnc, hcell, hch⟩ := hd1'.at hset
    have hn := hch.n hdl
    obtain ⟨⟨d0, -, -⟩, -⟩ := three hd1'.head
    have hlen : (cs.set k (dropAt c p)).length = cs.length := List.length_set
    rw [hlen] at hv hnc
    have hn0 : ((((dropAt c p).length : Nat) : Int) == 0) = false := by
      rw [beq_eq_false_iff_ne]
      intro e
      exact he (by simpa using List.eq_nil_of_length_eq_zero (by omega))
    have HP := Lib.hid (show DeqPost d v gs (cs.set k (dropAt c p)) (.bool true) w (.returned (.bool true)) w1 from ⟨v, gs, rfl, hd1', hc1, fun q hq => .inl hq⟩)
    have hkl2 : (k : Int) < (cs.length : Int) := by omega
    clear hd1 hd1' hch hg hset h1 h2 h4 hc1 HTAKE he hlen h hf hi hne
    subst hv
    obtain ⟨z, hz⟩ : ∃ z, (dropAt c p).length = z := ⟨_, rfl⟩
    rw [hz] at hn hn0
    clear hz
    go_wp2_with fail
    go_ret
    exact HP.out
end Go.Proofs.Ytefoieloakfhfaa
