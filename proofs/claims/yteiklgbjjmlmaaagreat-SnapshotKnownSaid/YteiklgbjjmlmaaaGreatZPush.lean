
/- A new chunk in a deque; Push. -/
import Derived.Test.YteiklgbjjmlmaaaGreatZChunk
namespace Pantry
open Go Go.RowKit
/-- An element put into a list. -/
def putIn {α : Type} (l : List α) (k : Nat) (x : α) : List α := l.take k ++ [x] ++ l.drop k
theorem putIn_length {α : Type} {l : List α} {k : Nat} (h : k ≤ l.length) (x : α) : (putIn l k x).length = l.length + 1 := by simp [putIn]; omega
theorem putIn_get {α : Type} {l : List α} {k : Nat} (h : k ≤ l.length) (x : α) (j : Nat) : (putIn l k x)[j]? = if j < k then l[j]? else if j = k then some x else l[j - 1]? := by
  unfold putIn
  by_cases h1 : j < k
  · rw [if_pos h1, List.append_assoc, List.getElem?_append_left (by rw [List.length_take]; omega), List.getElem?_take, if_pos h1]
  · rw [if_neg h1]
    by_cases h2 : j = k
    · subst h2
      rw [if_pos rfl, List.append_assoc, List.getElem?_append_right (by rw [List.length_take]; omega), List.length_take, Nat.min_eq_left h, Nat.sub_self]
      rfl
    · rw [if_neg h2, List.getElem?_append_right (by simp; omega), List.getElem?_drop]
      congr 1
      simp; omega
theorem putIn_map {α β : Type} (f : α → β) (l : List α) (k : Nat) (x : α) : (putIn l k x).map f = putIn (l.map f) k (f x) := by simp [putIn, List.map_take, List.map_drop]
theorem putIn_mem {α : Type} {l : List α} {k : Nat} {x y : α} (h : y ∈ putIn l k x) : y ∈ l ∨ y = x := by
  simp only [putIn, List.mem_append, List.mem_singleton] at h
  rcases h with (h | h) | h
  · exact .inl (List.mem_of_mem_take h)
  · exact .inr h
  · exact .inl (List.mem_of_mem_drop h)
theorem putIn_nodup {l : List Nat} (k : Nat) {x : Nat} (h : l.Nodup) (hx : x ∉ l) : (putIn l k x).Nodup := by
  have e : l.take k ++ l.drop k = l := List.take_append_drop k l
  have hp : (putIn l k x).Perm (x :: l) := by
    unfold putIn
    rw [List.append_assoc]
    have h1 : (l.take k ++ ([x] ++ l.drop k)).Perm ([x] ++ l.drop k ++ l.take k) := List.perm_append_comm
    refine h1.trans ?_
    simp only [List.cons_append]
    refine List.Perm.cons x ?_
    have h2 : (l.drop k ++ l.take k).Perm (l.take k ++ l.drop k) := List.perm_append_comm
    rw [e] at h2
    exact h2
  exact hp.nodup_iff.2 (List.nodup_cons.2 ⟨hx, h⟩)
theorem sum_putIn {α : Type} {f : α → Nat} (l : List α) (k : Nat) (x : α) : ((putIn l k x).map f).sum = (l.map f).sum + f x := by
  have e : (l.map f).sum = ((l.take k).map f).sum + ((l.drop k).map f).sum := by rw [← List.sum_append, ← List.map_append, List.take_append_drop]
  rw [e]; simp [putIn]; omega
theorem total_putIn (cs : List (List Txt)) (k : Nat) (c : List Txt) : total (putIn cs k c) = total cs + c.length := sum_putIn (f := fun c : List Txt => c.length) cs k c
theorem costOf_putIn (cs : List (List Txt)) (k : Nat) (c : List Txt) : costOf (putIn cs k c) = costOf cs + (c.map fun x : Txt => 16 + x.length).sum := sum_putIn (f := fun c : List Txt => (c.map fun x : Txt => 16 + x.length).sum) cs k c
theorem putIn_set {α : Type} {l : List α} {k : Nat} (h : k ≤ l.length) (x y : α) : (putIn l k x).set k y = putIn l k y := by
  apply List.ext_getElem?
  intro j
  rw [List.getElem?_set, putIn_get h, putIn_get h, putIn_length h]
  by_cases hj : k = j
  · subst hj; simp; omega
  · rw [if_neg hj]
    by_cases h1 : j < k
    · rw [if_pos h1, if_pos h1]
    · rw [if_neg h1, if_neg h1, if_neg (fun e => hj e.symm), if_neg (fun e => hj e.symm)]
/-- Push, on the chunks. -/
def pushC (ahead : Bool) (s : Txt) (cs : List (List Txt)) : List (List Txt) :=
  match cs[if ahead then 0 else cs.length - 1]? with
  | none => [[s]]
  | some c => if c.length = 32 then putIn cs (if ahead then 0 else cs.length) [s] else cs.set (if ahead then 0 else cs.length - 1) (insAt c (if ahead then 0 else c.length) s)
end Pantry
namespace Go.Proofs.YteiklgbjjmlmaaaGreat
open Go.RowKit Pantry

theorem newChunk : (chunkL []).toArray = #[.string ⟨#[]⟩, .string ⟨#[]⟩, .string ⟨#[]⟩, .string ⟨#[]⟩, .string ⟨#[]⟩, .string ⟨#[]⟩, .string ⟨#[]⟩, .string ⟨#[]⟩, .string ⟨#[]⟩, .string ⟨#[]⟩, .string ⟨#[]⟩, .string ⟨#[]⟩, .string ⟨#[]⟩, .string ⟨#[]⟩, .string ⟨#[]⟩, .string ⟨#[]⟩,
    .string ⟨#[]⟩, .string ⟨#[]⟩, .string ⟨#[]⟩, .string ⟨#[]⟩, .string ⟨#[]⟩, .string ⟨#[]⟩, .string ⟨#[]⟩, .string ⟨#[]⟩, .string ⟨#[]⟩, .string ⟨#[]⟩, .string ⟨#[]⟩, .string ⟨#[]⟩, .string ⟨#[]⟩, .string ⟨#[]⟩, .string ⟨#[]⟩, .string ⟨#[]⟩, .int .i64 0] := rfl
/-- What a change leaves, where the row may have moved and chunks may have come. -/
def DeqPost (d : Nat) (v : Value) (gs : List Nat) (cs' : List (List Txt)) (r : Value) (w : World) (e : Ending) (w' : World) : Prop :=
  ∃ v' gs', e = .returned r ∧ DeqAt w' d v' gs' cs' ∧ Chg (Foot d v gs) w w' ∧ ∀ k, Foot d v' gs' k → Foot d v gs k ∨ w.heap.size ≤ k
theorem ptr_one (gs : List Nat) : ∀ u ∈ gs.map ptr, u.oneCell' = true := by
  intro u hu
  obtain ⟨g, _, rfl⟩ := List.mem_map.1 hu
  rfl
/-- A chunk has come in: the row is new, the head is not told of it yet. -/
theorem DeqAt.inserted {w w3 w4 : World} {d : Nat} {v v' : Value} {gs : List Nat} {cs : List (List Txt)} (h : DeqAt w d v gs cs) {k g : Nat} {c : List Txt} (hk : k ≤ cs.length) (hg : w.heap.size ≤ g) (hch : ChunkAt w3 g c)
    (hc : Chg (fun j => v.ownBlock = some j) w w3) (hrow : w3.ownsRow 0 140 1 v' (cs.length + 1) (putIn (gs.map ptr) k (ptr g))) (hv : ∀ j, v'.ownBlock = some j → v.ownBlock = some j ∨ w.heap.size ≤ j ∧ j ≠ g)
    (hu : Upd d (.cells #[v', .int .i64 (total (putIn cs k c) : Nat), .int .i64 (costOf (putIn cs k c) : Nat)] 135) w3 w4) : DeqAt w4 d v' (putIn gs k g) (putIn cs k c) := by
  have hl := h.len
  have hdl := h.lt d (.inl rfl)
  have hgd : g ≠ d := by omega
  have hgl : ∀ j ∈ gs, j < w.heap.size := fun j hj => h.lt j (.inr (.inl hj))
  refine ⟨hu.here, ?_, ?_, putIn_nodup k h.nodup fun hm => absurd (hgl g hm) (by omega), ?_, ?_, ?_⟩
  · rw [putIn_length hk, putIn_map]
    refine Chg.ownsRow hrow hu.chg fun j hj e => ?_
    subst e
    rcases hv _ hj with h1 | h1
    · exact h.rowd h1
    · omega
  · intro i gi ci hi hci
    rw [putIn_get (by omega)] at hi
    rw [putIn_get hk] at hci
    have key : gi ∈ gs ∧ ChunkAt w gi ci ∨ gi = g ∧ ci = c := by
      by_cases h1 : i < k
      · rw [if_pos h1] at hi hci
        exact .inl ⟨List.mem_of_getElem? hi, h.chunk i gi ci hi hci⟩
      · rw [if_neg h1] at hi hci
        by_cases h2 : i = k
        · rw [if_pos h2] at hi hci
          cases hi; cases hci; exact .inr ⟨rfl, rfl⟩
        · rw [if_neg h2] at hi hci
          exact .inl ⟨List.mem_of_getElem? hi, h.chunk _ gi ci hi hci⟩
    rcases key with ⟨hm, hca⟩ | ⟨rfl, rfl⟩
    · have hne : gi ≠ d := fun e => h.notd (by rw [← e]; exact hm)
      unfold ChunkAt
      rw [hu.other gi hne]
      exact hc.heap hca fun e => h.rowg _ e hm
    · unfold ChunkAt
      rw [hu.other gi hgd]
      exact hch
  · intro hm
    rcases putIn_mem hm with hm | hm
    · exact h.notd hm
    · omega
  · intro e
    rcases hv d e with h1 | h1
    · exact h.rowd h1
    · omega
  · intro j hj hm
    rcases hv j hj with h1 | h1
    · rcases putIn_mem hm with hm | hm
      · exact h.rowg j h1 hm
      · have := h.lt j (.inr (.inr h1)); omega
    · rcases putIn_mem hm with hm | hm
      · have := hgl j hm; omega
      · exact h1.2 hm
end Go.Proofs.YteiklgbjjmlmaaaGreat


/- Push. -/
namespace Go.Proofs.YteiklgbjjmlmaaaGreat
open Go.RowKit Pantry

theorem refused_no (w : World) (d : Nat) (v : Value) (gs : List Nat) (cs : List (List Txt)) (s : Txt) (h : DeqAt w d v gs cs) (hs : s.length ≤ 1048576) (ht : total cs < 1048576) : Calls Tryz.prog 80 #[.pointer (some ⟨d, 0, none⟩), .string ⟨s.toArray⟩] w fun e w' => e = .returned (.int .i64 0) ∧ w = w' := by
  have hsz := mk_size s
  obtain ⟨⟨d0, d1, d2⟩, -⟩ := threeQ h.head
  have h1 : ¬ (1048576 : Int) < (s.length : Int) := by omega
  have h2 : ¬ (1048576 : Int) ≤ ((total cs : Nat) : Int) := by omega
  go_enter Tryz.func80, Tryz.ntmps80
  go_wp2_with fail
  go_ret
  exact ⟨rfl, rfl⟩
set_option maxHeartbeats 4000000 in
set_option maxRecDepth 100000 in
/-- There is room in the chunk. -/
theorem push_room (w : World) (d : Nat) (v : Value) (gs : List Nat) (cs : List (List Txt)) (ahead : Bool) (s : Txt) (c : List Txt) (h : DeqAt w d v gs cs) (hf : Fits cs) (hs : s.length ≤ 1048576) (ht : total cs < 1048576)
    (hc : cs[if ahead then 0 else cs.length - 1]? = some c) (hc32 : c.length < 32) :
    Calls Tryz.prog 62 #[.pointer (some ⟨d, 0, none⟩), .bool ahead, .string ⟨s.toArray⟩] w (DeqPost d v gs (cs.set (if ahead then 0 else cs.length - 1) (insAt c (if ahead then 0 else c.length) s)) (.int .i64 0) w) := by
  have HR := Lib.hid (refused_no w d v gs cs s h hs ht)
  obtain ⟨g, sb, cap, hg, hv, hkl, hnc, hcell, hch⟩ := h.at hc
  have hn := hch.n (by omega)
  obtain ⟨⟨d0, d1, d2⟩, -⟩ := threeQ h.head
  have HLAY := Lib.hid (lay_any w d v gs cs (if ahead then 0 else cs.length - 1) (if ahead then 0 else c.length) c s h hc hc32 (by split <;> omega) hf ht hs)
  have HFOOT := Lib.hid (fun (w' : World) (cs' : List (List Txt)) (hd : DeqAt w' d v gs cs') (hc : Chg (Foot d v gs) w w') => show DeqPost d v gs cs' (.int .i64 0) w (.returned (.int .i64 0)) w' from ⟨v, gs, rfl, hd, hc, fun k hk => .inl hk⟩)
  have hrl := hf.rows
  subst hv
  obtain ⟨m, hm⟩ : ∃ m, cs.length = m := ⟨_, rfl⟩
  obtain ⟨n, hn2⟩ : ∃ n, c.length = n := ⟨_, rfl⟩
  rw [hm] at hkl hnc d0 hrl hcell HLAY HFOOT
  rw [hn2] at hn hc32 HLAY
  rw [hm, hn2]
  have hm0 : 0 < m := by
    cases ahead with
    | true => simpa using hkl
    | false => simp at hkl; omega
  clear h hc hf hg hch d1 d2 hm hn2
  have h32 : ((n : Int) == 32) = false := by rw [beq_eq_false_iff_ne]; omega
  have hm1 : ((m : Int) == 0) = false := by rw [beq_eq_false_iff_ne]; omega
  cases ahead with
  | true =>
    simp only [if_true] at hcell HLAY ⊢
    go_enter Tryz.func62, Tryz.ntmps62
    go_wp2_with (first
      | (go_at_call 80; refine HR.out.mono ?_; rintro e w' ⟨rfl, rfl⟩)
      | (go_at_call 82; refine HLAY.out.mono ?_; rintro e w' ⟨rfl, hd, hcg⟩))
    go_ret
    exact HFOOT.out _ _ hd hcg
  | false =>
    simp only [Bool.false_eq_true, if_false] at hcell HLAY ⊢
    obtain ⟨j, rfl⟩ : ∃ j, m = j + 1 := ⟨m - 1, by omega⟩
    simp only [Nat.add_sub_cancel] at hcell HLAY ⊢
    go_enter Tryz.func62, Tryz.ntmps62
    go_wp2_with (first
      | (go_at_call 80; refine HR.out.mono ?_; rintro e w' ⟨rfl, rfl⟩)
      | (go_at_call 82; refine HLAY.out.mono ?_; rintro e w' ⟨rfl, hd, hcg⟩))
    go_ret
    exact HFOOT.out _ _ hd hcg
end Go.Proofs.YteiklgbjjmlmaaaGreat


/- Push where a chunk comes in. -/
namespace Pantry
open Go Go.RowKit
theorem rows_le {cs : List (List Txt)} (h : ∀ c ∈ cs, c ≠ []) : cs.length ≤ total cs := by
  induction cs with
  | nil => simp
  | cons c cs ih =>
    have a := ih fun x hx => h x (List.mem_cons_of_mem _ hx)
    have b := List.length_pos_iff.2 (h c List.mem_cons_self)
    simp only [total, List.map_cons, List.sum_cons, List.length_cons] at a ⊢
    omega
theorem Fits.putIn {cs : List (List Txt)} (h : Fits cs) (k : Nat) {c : List Txt} (h1 : c.length ≤ 32) (h2 : ∀ x ∈ c, x.length ≤ 1048576) (h3 : Pantry.total cs + c.length ≤ 1048576) (h4 : cs.length ≤ 1048576) (hk : k ≤ cs.length) : Fits (putIn cs k c) :=
  ⟨fun c' hc => by rcases putIn_mem hc with hc | rfl; exact h.chunk c' hc; exact h1, fun c' hc => by rcases putIn_mem hc with hc | rfl; exact h.text c' hc; exact h2, by rw [total_putIn]; exact h3, by rw [putIn_length hk]; omega⟩
end Pantry
namespace Go.Proofs.YteiklgbjjmlmaaaGreat
open Go.RowKit Pantry

set_option maxHeartbeats 8000000 in
set_option maxRecDepth 100000 in
theorem push_new (w : World) (d : Nat) (v : Value) (gs : List Nat) (cs : List (List Txt)) (ahead : Bool) (s : Txt) (h : DeqAt w d v gs cs) (hf : Fits cs) (hne : cs.length ≤ total cs) (hs : s.length ≤ 1048576) (ht : total cs < 1048576)
    (hc : cs = [] ∨ ∃ c, cs[if ahead then 0 else cs.length - 1]? = some c ∧ c.length = 32) :
    Calls Tryz.prog 62 #[.pointer (some ⟨d, 0, none⟩), .bool ahead, .string ⟨s.toArray⟩] w (DeqPost d v gs (putIn cs (if ahead then 0 else cs.length) [s]) (.int .i64 0) w) := by
  have HR := Lib.hid (refused_no w d v gs cs s h hs ht)
  obtain ⟨K, hK⟩ : ∃ K, (if ahead then 0 else cs.length) = K := ⟨_, rfl⟩
  rw [hK]
  have hKl : K ≤ cs.length := by rw [← hK]; split <;> omega
  obtain ⟨H, hH⟩ : ∃ H, w.heap.size = H := ⟨_, rfl⟩
  obtain ⟨W1, hW1⟩ : ∃ W1, w.alloc (.cells (chunkL []).toArray 139) = W1 := ⟨_, rfl⟩
  have hs1 : W1.heap.size = H + 1 := by rw [← hW1, ← hH]; simp
  obtain ⟨W2, hW2⟩ : ∃ W2, W1.alloc (.cells #[ptr H] 140) = W2 := ⟨_, rfl⟩
  have hs2 : W2.heap.size = H + 2 := by rw [← hW2]; simp [hs1]
  have hch2 : ChunkAt W2 H [] := by
    unfold ChunkAt
    rw [← hW2, Below.heap_alloc W1 _ H (by omega), ← hW1, ← hH]
    exact heap_alloc_new w _
  have hvb2 : W2.heap[H + 1]? = some (.cells #[ptr H] 140) := by rw [← hW2, ← hs1]; exact heap_alloc_new W1 _
  have hcg2 : Chg (fun _ => False) w W2 := by rw [← hW2, ← hW1]; exact ((Chg.refl _ w).alloc _).alloc _
  have hown2 := Chg.ownsRow h.row hcg2 fun _ _ h => h
  have HINS := Lib.hid (insert_any W2 0 (H + 1) K cs.length v (ptr H) (gs.map ptr) hown2 hvb2 (fun e => by have := h.lt _ (.inr (.inr e)); omega) (Nat.zero_le _) hKl (by have := hf.rows; omega) (ptr_one gs) rfl)
  -- what is known behind the call of Insert
  have HNEXT := Lib.hid (fun (v' : Value) (w3 : World) (r1 : w3.ownsRow 0 140 1 v' (cs.length + 1) (putIn (gs.map ptr) K (ptr H))) (r2 : W2.grownBy w3 v.ownBlock) (r3 : ∀ k, v'.ownBlock = some k → v.ownBlock = some k ∨ W2.heap.size ≤ k) =>
    show (w3.heap[d]? = some (.cells #[v, .int .i64 (total cs : Nat), .int .i64 (costOf cs : Nat)] 135)) ∧ ChunkAt w3 H [] ∧
      DeqAt (w3.setCell ⟨d, 0, none⟩ v') d v' (putIn gs K H) (putIn cs K []) ∧ Chg (Foot d v gs) w (w3.setCell ⟨d, 0, none⟩ v') ∧ ∀ k, Foot d v' (putIn gs K H) k → Foot d v gs k ∨ w.heap.size ≤ k from by
    have hcg3 : Chg (fun j => v.ownBlock = some j) w w3 := (hcg2.mono fun _ _ e => e.elim).trans (Chg.of_grown r2 fun k e => e) (fun _ _ e => e)
    have hd3 := hcg3.heap h.head (fun e => h.rowd e)
    have hc3 : ChunkAt w3 H [] := (r2.block H (by omega) (fun e => by have := h.lt H (.inr (.inr e.symm)); omega)).trans hch2
    have hU := (Upd.same hd3).setCell 0 v'
    have hin : DeqAt (w3.setCell ⟨d, 0, none⟩ v') d v' (putIn gs K H) (putIn cs K []) := by
      refine h.inserted hKl (by omega) hc3 hcg3 r1 (fun j hj => ?_) (w3 := w3) ?_
      · rcases r3 j hj with h1 | h1
        · exact .inl h1
        · exact .inr ⟨by omega, by omega⟩
      · rw [total_putIn, costOf_putIn]
        exact hU
    refine ⟨hd3, hc3, hin, (hcg3.mono fun _ _ e => .inr (.inr e)).trans hU.chg (fun _ _ e => .inl e), fun k hk => ?_⟩
    rcases hk with rfl | hk | hk
    · exact .inl (.inl rfl)
    · rcases putIn_mem hk with hk | rfl
      · exact .inl (.inr (.inl hk))
      · exact .inr (by omega)
    · rcases r3 k hk with h1 | h1
      · exact .inl (.inr (.inr h1))
      · exact .inr (by omega))
  have HPUT := Lib.hid (show (putIn cs K []).set K (insAt [] 0 s) = putIn cs K [s] from putIn_set hKl [] [s])
  have HFIT := Lib.hid (hf.putIn (c := []) K (by simp) (by simp) (by simp; omega) (by omega) hKl)
  have HTOT := Lib.hid (show total (putIn cs K []) < 1048576 by rw [total_putIn]; simpa using ht)
  have HGET := Lib.hid (show (putIn cs K [])[K]? = some [] by rw [putIn_get hKl, if_neg (by omega), if_pos rfl])
  have HWL := Lib.hid (show (w.alloc (.cells #[.string ⟨#[]⟩, .string ⟨#[]⟩, .string ⟨#[]⟩, .string ⟨#[]⟩, .string ⟨#[]⟩, .string ⟨#[]⟩, .string ⟨#[]⟩, .string ⟨#[]⟩, .string ⟨#[]⟩, .string ⟨#[]⟩, .string ⟨#[]⟩, .string ⟨#[]⟩, .string ⟨#[]⟩, .string ⟨#[]⟩, .string ⟨#[]⟩, .string ⟨#[]⟩,
    .string ⟨#[]⟩, .string ⟨#[]⟩, .string ⟨#[]⟩, .string ⟨#[]⟩, .string ⟨#[]⟩, .string ⟨#[]⟩, .string ⟨#[]⟩, .string ⟨#[]⟩, .string ⟨#[]⟩, .string ⟨#[]⟩, .string ⟨#[]⟩, .string ⟨#[]⟩, .string ⟨#[]⟩, .string ⟨#[]⟩, .string ⟨#[]⟩, .string ⟨#[]⟩, .int .i64 0] 139)).alloc (.cells #[.pointer (some ⟨w.heap.size, 0, none⟩)] 140) = W2 by
    rw [← hW2, ← hW1, newChunk, ← hH]; rfl)
  subst hH
  obtain ⟨a0, c0, hv0, -⟩ := ownsRow_rd h.row (ptr_one gs)
  obtain ⟨⟨d0, d1, d2⟩, -⟩ := threeQ h.head
  have hrl := hf.rows
  subst hv0
  obtain ⟨m, hm⟩ : ∃ m, cs.length = m := ⟨_, rfl⟩
  have hlast : m = 0 ∨ 0 < m ∧ ∃ g sb cap, a0 = some ⟨sb, 0, none⟩ ∧ c0 = cap ∧ (if ahead then 0 else m - 1) < cap ∧ w.cell? ⟨sb, if ahead then 0 else m - 1, none⟩ = some (.pointer (some ⟨g, 0, none⟩)) ∧ w.cell? ⟨g, 32, none⟩ = some (.int .i64 32) := by
    rcases hc with rfl | ⟨c, hc, h32⟩
    · exact .inl hm.symm
    · obtain ⟨g, sb, cap, -, hv, hkl, hnc, hcell, hch⟩ := h.at hc
      have hn := hch.n (by omega)
      rw [h32] at hn
      cases hv
      rw [hm] at hcell hkl
      exact .inr ⟨by omega, g, sb, _, rfl, rfl, by omega, hcell, hn⟩
  rw [hm] at hKl hK d0 hrl
  have HM := Lib.hid hm
  rw [hm] at HINS HNEXT ⊢
  clear hm hc h hf hne hW1 hW2 hs1 hs2 hch2 hvb2 hcg2 hown2 d1 d2 ht
  rcases hlast with h0 | ⟨h0, g, sb, cap, rfl, rfl, hcap, hcell, hn⟩
  · subst h0
    obtain rfl : K = 0 := by omega
    cases ahead
    all_goals
      go_enter Tryz.func62, Tryz.ntmps62
      go_wp2_with (go_at_call 80; refine HR.out.mono ?_; rintro e w' ⟨rfl, rfl⟩)
      rw [HWL.out]
      refine HINS.out.mono ?_
      rintro e w3 ⟨v', rfl, r1, r2, r3⟩
      obtain ⟨hd3, hc3, hin, hcg, hft⟩ := HNEXT.out v' w3 r1 r2 r3
      obtain ⟨g', sb', cap', -, hv', hkl', hnc', hcell', hch'⟩ := hin.at HGET.out
      have hn' := hch'.n (by simp)
      have HLAY := Lib.hid (lay_any _ d v' _ _ 0 0 [] s hin HGET.out (by simp) (Nat.le_refl _) HFIT.out HTOT.out hs)
      obtain ⟨⟨e0, -, -⟩, ef⟩ := threeQ hd3
      have ef0 := ef 0
      obtain ⟨⟨x0, -, -⟩, -⟩ := threeQ hin.head
      have HEND := Lib.hid (fun (w' : World) (hd : DeqAt w' d v' (putIn gs 0 w.heap.size) ((putIn cs 0 []).set 0 (insAt [] 0 s))) (hc : Chg (Foot d v' (putIn gs 0 w.heap.size)) (w3.setCell ⟨d, 0, none⟩ v') w') =>
        show DeqPost d (.slice a0 0 c0) gs (putIn cs 0 [s]) (.int .i64 0) w (.returned (.int .i64 0)) w' from
          ⟨v', _, rfl, by rw [← HPUT.out]; exact hd, hcg.trans hc fun j hj hk => (hft j hk).resolve_right (by omega), hft⟩)
      have HPL := Lib.hid (putIn_length (l := cs) (k := 0) (by rw [HM.out]; omega) ([] : List Txt))
      rw [HPL.out, HM.out] at hv' hnc' hkl'
      rw [hv'] at x0 HLAY HEND r1
      subst hv'
      clear hin hch' hc3 hd3 hcg hft r1 r2 r3 ef HPUT HNEXT HINS HGET
      go_upto_region 13 with fail
      obtain ⟨w4, hw4⟩ : ∃ w4, w3.setCell ⟨d, 0, none⟩ (.slice (some ⟨sb', 0, none⟩) (0 + 1) cap') = w4 := ⟨_, rfl⟩
      rw [hw4] at hcell' hn' x0 HLAY HEND ⊢
      clear hw4 e0 ef0
      go_wp2_with (go_at_call 82; refine HLAY.out.mono ?_; rintro e w' ⟨rfl, hd, hcg⟩)
      go_ret
      exact HEND.out _ hd hcg
  · obtain ⟨j, rfl⟩ : ∃ j, m = j + 1 := ⟨m - 1, by omega⟩
    cases ahead with
    | true =>
      simp only [if_true] at hK hcell hcap
      subst hK
      go_enter Tryz.func62, Tryz.ntmps62
      go_wp2_with (go_at_call 80; refine HR.out.mono ?_; rintro e w' ⟨rfl, rfl⟩)
      rw [HWL.out]
      refine HINS.out.mono ?_
      rintro e w3 ⟨v', rfl, r1, r2, r3⟩
      obtain ⟨hd3, hc3, hin, hcg, hft⟩ := HNEXT.out v' w3 r1 r2 r3
      obtain ⟨g', sb', cap', -, hv', hkl', hnc', hcell', hch'⟩ := hin.at HGET.out
      have hn' := hch'.n (by simp)
      have HLAY := Lib.hid (lay_any _ d v' _ _ 0 0 [] s hin HGET.out (by simp) (Nat.le_refl _) HFIT.out HTOT.out hs)
      obtain ⟨⟨e0, -, -⟩, ef⟩ := threeQ hd3
      have ef0 := ef 0
      obtain ⟨⟨x0, -, -⟩, -⟩ := threeQ hin.head
      have HEND := Lib.hid (fun (w' : World) (hd : DeqAt w' d v' (putIn gs (0) w.heap.size) ((putIn cs (0) []).set (0) (insAt [] 0 s))) (hc : Chg (Foot d v' (putIn gs (0) w.heap.size)) (w3.setCell ⟨d, 0, none⟩ v') w') =>
        show DeqPost d (.slice (some ⟨sb, 0, none⟩) (j + 1) c0) gs (putIn cs (0) [s]) (.int .i64 0) w (.returned (.int .i64 0)) w' from
          ⟨v', _, rfl, by rw [← HPUT.out]; exact hd, hcg.trans hc fun j hj hk => (hft j hk).resolve_right (by omega), hft⟩)
      have HPL := Lib.hid (putIn_length (l := cs) (k := 0) (by rw [HM.out]; omega) ([] : List Txt))
      rw [HPL.out, HM.out] at hv' hnc' hkl'
      rw [hv'] at x0 HLAY HEND r1
      subst hv'
      clear hin hch' hc3 hd3 hcg hft r1 r2 r3 ef HPUT HNEXT HINS HGET
      go_upto_region 13 with fail
      obtain ⟨w4, hw4⟩ : ∃ w4, w3.setCell ⟨d, 0, none⟩ (.slice (some ⟨sb', 0, none⟩) ((j + 1) + 1) cap') = w4 := ⟨_, rfl⟩
      rw [hw4] at hcell' hn' x0 HLAY HEND ⊢
      clear hw4 e0 ef0
      go_wp2_with (go_at_call 82; refine HLAY.out.mono ?_; rintro e w' ⟨rfl, hd, hcg⟩)
      go_ret
      exact HEND.out _ hd hcg
    | false =>
      simp only [Bool.false_eq_true, if_false, Nat.add_sub_cancel] at hK hcell hcap
      subst hK
      rw [show ((j + 1 : Nat) : Int) = (j : Int) + 1 from rfl] at HINS
      go_enter Tryz.func62, Tryz.ntmps62
      go_wp2_with (go_at_call 80; refine HR.out.mono ?_; rintro e w' ⟨rfl, rfl⟩)
      rw [HWL.out]
      refine HINS.out.mono ?_
      rintro e w3 ⟨v', rfl, r1, r2, r3⟩
      obtain ⟨hd3, hc3, hin, hcg, hft⟩ := HNEXT.out v' w3 r1 r2 r3
      obtain ⟨g', sb', cap', -, hv', hkl', hnc', hcell', hch'⟩ := hin.at HGET.out
      have hn' := hch'.n (by simp)
      have HLAY := Lib.hid (lay_any _ d v' _ _ (j + 1) 0 [] s hin HGET.out (by simp) (Nat.le_refl _) HFIT.out HTOT.out hs)
      obtain ⟨⟨e0, -, -⟩, ef⟩ := threeQ hd3
      have ef0 := ef 0
      obtain ⟨⟨x0, -, -⟩, -⟩ := threeQ hin.head
      have HEND := Lib.hid (fun (w' : World) (hd : DeqAt w' d v' (putIn gs ((j + 1)) w.heap.size) ((putIn cs ((j + 1)) []).set ((j + 1)) (insAt [] 0 s))) (hc : Chg (Foot d v' (putIn gs ((j + 1)) w.heap.size)) (w3.setCell ⟨d, 0, none⟩ v') w') =>
        show DeqPost d (.slice (some ⟨sb, 0, none⟩) (j + 1) c0) gs (putIn cs ((j + 1)) [s]) (.int .i64 0) w (.returned (.int .i64 0)) w' from
          ⟨v', _, rfl, by rw [← HPUT.out]; exact hd, hcg.trans hc fun j hj hk => (hft j hk).resolve_right (by omega), hft⟩)
      have HPL := Lib.hid (putIn_length (l := cs) (k := (j + 1)) (by rw [HM.out]; omega) ([] : List Txt))
      rw [HPL.out, HM.out] at hv' hnc' hkl'
      rw [hv'] at x0 HLAY HEND r1
      subst hv'
      clear hin hch' hc3 hd3 hcg hft r1 r2 r3 ef HPUT HNEXT HINS HGET
      go_upto_region 13 with fail
      obtain ⟨w4, hw4⟩ : ∃ w4, w3.setCell ⟨d, 0, none⟩ (.slice (some ⟨sb', 0, none⟩) ((j + 1) + 1) cap') = w4 := ⟨_, rfl⟩
      rw [hw4] at hcell' hn' x0 HLAY HEND ⊢
      clear hw4 e0 ef0
      go_wp2_with (go_at_call 82; refine HLAY.out.mono ?_; rintro e w' ⟨rfl, hd, hcg⟩)
      go_ret
      exact HEND.out _ hd hcg
end Go.Proofs.YteiklgbjjmlmaaaGreat


/- Push, whole. -/
namespace Pantry
/-- What a deque keeps: no chunk is empty. -/
structure DGood (cs : List (List Txt)) : Prop extends Fits cs where
  some_ : ∀ c ∈ cs, c ≠ []
theorem DGood.rows_le {cs : List (List Txt)} (h : DGood cs) : cs.length ≤ Pantry.total cs := Pantry.rows_le h.some_
theorem DGood.nil : DGood [] := ⟨⟨by simp, by simp, by simp [Pantry.total], by simp⟩, by simp⟩
theorem insAt_ne (c : List Txt) (p : Nat) (s : Txt) : insAt c p s ≠ [] := by simp [insAt]
theorem set_mem {α : Type} {l : List α} {k : Nat} {x y : α} (h : y ∈ l.set k x) : y ∈ l ∨ y = x := List.mem_or_eq_of_mem_set h
theorem insAt_mem {c : List Txt} {p : Nat} {s x : Txt} (h : x ∈ insAt c p s) : x ∈ c ∨ x = s := by
  simp only [insAt, List.mem_append, List.mem_singleton] at h
  rcases h with (h | h) | h
  · exact .inl (List.mem_of_mem_take h)
  · exact .inr h
  · exact .inl (List.mem_of_mem_drop h)
theorem DGood.lay {cs : List (List Txt)} (h : DGood cs) {k p : Nat} {c : List Txt} {s : Txt} (hk : cs[k]? = some c) (hp : p ≤ c.length) (hc : c.length < 32) (hs : s.length ≤ 1048576) (ht : Pantry.total cs < 1048576) : DGood (cs.set k (insAt c p s)) := by
  have hm := List.mem_of_getElem? hk
  have hT := total_set (c' := insAt c p s) hk
  rw [insAt_length hp] at hT
  refine ⟨⟨fun c' hc' => ?_, fun c' hc' x hx => ?_, by omega, by rw [List.length_set]; exact h.rows⟩, fun c' hc' => ?_⟩
  · rcases set_mem hc' with h1 | rfl
    · exact h.chunk c' h1
    · rw [insAt_length hp]; omega
  · rcases set_mem hc' with h1 | rfl
    · exact h.text c' h1 x hx
    · rcases insAt_mem hx with h2 | rfl
      · exact h.text c hm x h2
      · exact hs
  · rcases set_mem hc' with h1 | rfl
    · exact h.some_ c' h1
    · exact insAt_ne _ _ _
theorem DGood.new {cs : List (List Txt)} (h : DGood cs) {k : Nat} {s : Txt} (hk : k ≤ cs.length) (hs : s.length ≤ 1048576) (ht : Pantry.total cs < 1048576) : DGood (Pantry.putIn cs k [s]) := by
  have hr := h.rows_le
  refine ⟨h.toFits.putIn k (by simp) (by simpa using hs) (by simp; omega) (by omega) hk, fun c' hc' => ?_⟩
  rcases putIn_mem hc' with h1 | rfl
  · exact h.some_ c' h1
  · simp
theorem DGood.push {cs : List (List Txt)} (h : DGood cs) (ahead : Bool) {s : Txt} (hs : s.length ≤ 1048576) (ht : Pantry.total cs < 1048576) : DGood (pushC ahead s cs) := by
  unfold pushC
  cases hc : cs[if ahead then 0 else cs.length - 1]? with
  | none =>
    refine ⟨⟨?_, ?_, ?_, by simp⟩, by simp⟩
    · simp
    · simpa using hs
    · simp [Pantry.total]
  | some c =>
    simp only
    have h32 := h.chunk c (List.mem_of_getElem? hc)
    by_cases hf : c.length = 32
    · rw [if_pos hf]; exact h.new (by split <;> omega) hs ht
    · rw [if_neg hf]; exact h.lay hc (by split <;> omega) (by omega) hs ht
/-- The row behind Push. -/
theorem putIn_flatten (cs : List (List Txt)) (k : Nat) (c : List Txt) : (putIn cs k c).flatten = (cs.take k).flatten ++ c ++ (cs.drop k).flatten := by simp [putIn]
theorem set_flatten {cs : List (List Txt)} {k : Nat} {c c' : List Txt} (h : cs[k]? = some c) : (cs.set k c').flatten = (cs.take k).flatten ++ c' ++ (cs.drop (k + 1)).flatten := by
  obtain ⟨hk, rfl⟩ := List.getElem?_eq_some_iff.1 h
  rw [List.set_eq_take_append_cons_drop, if_pos hk]
  simp
theorem at_flatten {cs : List (List Txt)} {k : Nat} {c : List Txt} (h : cs[k]? = some c) : cs.flatten = (cs.take k).flatten ++ c ++ (cs.drop (k + 1)).flatten := by
  have := set_flatten (c' := c) h
  rw [← this]
  congr 1
  obtain ⟨hk, rfl⟩ := List.getElem?_eq_some_iff.1 h
  exact (List.set_getElem_self hk).symm
theorem push_row (ahead : Bool) (s : Txt) (cs : List (List Txt)) : (pushC ahead s cs).flatten = if ahead then s :: cs.flatten else cs.flatten ++ [s] := by
  unfold pushC
  cases hc : cs[if ahead then 0 else cs.length - 1]? with
  | none =>
    have : cs = [] := by
      rw [List.getElem?_eq_none_iff] at hc
      cases ahead <;> simp at hc
      · apply List.eq_nil_of_length_eq_zero; omega
      · exact hc
    subst this
    cases ahead <;> simp
  | some c =>
    simp only
    cases ahead with
    | true =>
      simp only [if_true] at hc ⊢
      by_cases hf : c.length = 32
      · rw [if_pos hf, putIn_flatten]; simp
      · rw [if_neg hf, set_flatten hc, at_flatten hc]; simp [insAt]
    | false =>
      simp only [Bool.false_eq_true, if_false] at hc ⊢
      have hd : cs.drop (cs.length - 1 + 1) = [] := List.drop_eq_nil_of_le (by omega)
      by_cases hf : c.length = 32
      · rw [if_pos hf, putIn_flatten]; simp
      · rw [if_neg hf, set_flatten hc, at_flatten hc, hd]; simp [insAt]
end Pantry
namespace Go.Proofs.YteiklgbjjmlmaaaGreat
open Go.RowKit Pantry

theorem push_ok (w : World) (d : Nat) (v : Value) (gs : List Nat) (cs : List (List Txt)) (ahead : Bool) (s : Txt) (h : DeqAt w d v gs cs) (hg : DGood cs) (hs : s.length ≤ 1048576) (ht : total cs < 1048576) :
    Calls Tryz.prog 62 #[.pointer (some ⟨d, 0, none⟩), .bool ahead, .string ⟨s.toArray⟩] w (DeqPost d v gs (pushC ahead s cs) (.int .i64 0) w) := by
  have hne := hg.rows_le
  unfold pushC
  cases hc : cs[if ahead then 0 else cs.length - 1]? with
  | none =>
    have h0 : cs = [] := by
      rw [List.getElem?_eq_none_iff] at hc
      cases ahead <;> simp at hc
      · apply List.eq_nil_of_length_eq_zero; omega
      · exact hc
    have := push_new w d v gs cs ahead s h hg.toFits hne hs ht (.inl h0)
    subst h0
    simpa [putIn] using this
  | some c =>
    simp only
    have h32 := hg.chunk c (List.mem_of_getElem? hc)
    by_cases hf : c.length = 32
    · rw [if_pos hf]
      exact push_new w d v gs cs ahead s h hg.toFits hne hs ht (.inr ⟨c, hc, hf⟩)
    · rw [if_neg hf]
      exact push_room w d v gs cs ahead s c h hg.toFits hs ht hc (by omega)
end Go.Proofs.YteiklgbjjmlmaaaGreat
