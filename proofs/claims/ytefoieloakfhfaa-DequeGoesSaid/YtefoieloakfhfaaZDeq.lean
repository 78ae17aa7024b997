/- A deque in memory; lay. -/
import Derived.Test.YtefoieloakfhfaaZChunk
import Derived.Deep.RegionWith
import Derived.BigRegion
import Derived.BigQuiet
namespace Pantry
open Go Go.RowKit
abbrev Txt := List UInt8
/-- What a text costs, and a row of chunks; how many texts it has. -/
def costOf (cs : List (List Txt)) : Nat := ((cs.map fun c => (c.map fun x => 16 + x.length).sum)).sum
def total (cs : List (List Txt)) : Nat := (cs.map (·.length)).sum
/-- Few enough, and none too long. -/
structure Fits (cs : List (List Txt)) : Prop where
  chunk : ∀ c ∈ cs, c.length ≤ 32
  text : ∀ c ∈ cs, ∀ x ∈ c, x.length ≤ 1048576
  total : total cs ≤ 1048576
  rows : cs.length ≤ 1048577
theorem costOf_le {cs : List (List Txt)} (h : ∀ c ∈ cs, ∀ x ∈ c, x.length ≤ 1048576) : costOf cs ≤ total cs * 1048592 := by
  induction cs with
  | nil => simp [costOf, total]
  | cons c cs ih =>
    have h1 : ∀ l : List Txt, (∀ x ∈ l, x.length ≤ 1048576) → (l.map fun x => 16 + x.length).sum ≤ l.length * 1048592 := by
      intro l
      induction l with
      | nil => intro _; simp
      | cons x l ih2 =>
        intro hl
        have a := ih2 fun y hy => hl y (List.mem_cons_of_mem _ hy)
        have b := hl x List.mem_cons_self
        simp only [List.map_cons, List.sum_cons, List.length_cons]
        omega
    have a := ih fun c hc => h c (List.mem_cons_of_mem _ hc)
    have b := h1 c (h c List.mem_cons_self)
    simp only [costOf, total, List.map_cons, List.sum_cons] at a ⊢
    rw [Nat.add_mul]
    omega
theorem sum_set {α : Type} {f : α → Nat} {l : List α} {k : Nat} {c c' : α} (h : l[k]? = some c) : ((l.set k c').map f).sum + f c = (l.map f).sum + f c' := by
  induction l generalizing k with
  | nil => simp at h
  | cons x l ih =>
    cases k with
    | zero => simp at h; subst h; simp; omega
    | succ k =>
      have := ih (k := k) (by simpa using h)
      simp only [List.set_cons_succ, List.map_cons, List.sum_cons]
      omega
theorem nodup_inj {l : List Nat} (h : l.Nodup) {i j g : Nat} (hi : l[i]? = some g) (hj : l[j]? = some g) : i = j := by
  obtain ⟨a, ha⟩ := List.getElem?_eq_some_iff.1 hi
  obtain ⟨b, hb⟩ := List.getElem?_eq_some_iff.1 hj
  have hp := List.pairwise_iff_getElem.1 h
  rcases Nat.lt_trichotomy i j with h1 | h1 | h1
  · exact absurd (ha.trans hb.symm) (hp i j a b h1)
  · exact h1
  · exact absurd (hb.trans ha.symm) (hp j i b a h1)
theorem total_set {cs : List (List Txt)} {k : Nat} {c c' : List Txt} (h : cs[k]? = some c) : total (cs.set k c') + c.length = total cs + c'.length := sum_set (f := fun c : List Txt => c.length) h
theorem costOf_set {cs : List (List Txt)} {k : Nat} {c c' : List Txt} (h : cs[k]? = some c) : costOf (cs.set k c') + (c.map fun x => 16 + x.length).sum = costOf cs + (c'.map fun x => 16 + x.length).sum := sum_set (f := fun c : List Txt => (c.map fun x : Txt => 16 + x.length).sum) (c' := c') h
/-- A text put into a chunk. -/
def insAt (c : List Txt) (p : Nat) (s : Txt) : List Txt := c.take p ++ [s] ++ c.drop p
theorem insAt_length {c : List Txt} {p : Nat} (h : p ≤ c.length) (s : Txt) : (insAt c p s).length = c.length + 1 := by simp [insAt]; omega
theorem insAt_cost {c : List Txt} {p : Nat} (s : Txt) : ((insAt c p s).map fun x => 16 + x.length).sum = (c.map fun x => 16 + x.length).sum + (16 + s.length) := by
  have e : (c.map fun x => 16 + x.length).sum = ((c.take p).map fun x => 16 + x.length).sum + ((c.drop p).map fun x => 16 + x.length).sum := by
    rw [← List.sum_append, ← List.map_append, List.take_append_drop]
  rw [e]
  simp [insAt]; omega
end Pantry
namespace Go.Proofs.Ytefoieloakfhfaa
open Go.RowKit Pantry

def ptr (g : Nat) : Value := .pointer (some ⟨g, 0, none⟩)
/-- Block d is a deque whose chunks are cs: they lie in the blocks gs, and pointers to them in the row v. -/
structure DeqAt (w : World) (d : Nat) (v : Value) (gs : List Nat) (cs : List (List Txt)) : Prop where
  head : w.heap[d]? = some (.cells #[v, .int .i64 (total cs : Nat), .int .i64 (costOf cs : Nat)] 62)
  row : w.ownsRow 0 67 1 v cs.length (gs.map ptr)
  chunk : ∀ (i g : Nat) (c : List Txt), gs[i]? = some g → cs[i]? = some c → ChunkAt w g c
  nodup : gs.Nodup
  notd : d ∉ gs
  rowd : v.ownBlock ≠ some d
  rowg : ∀ k, v.ownBlock = some k → k ∉ gs
/-- The blocks that it takes. -/
def Foot (d : Nat) (v : Value) (gs : List Nat) (k : Nat) : Prop := k = d ∨ k ∈ gs ∨ v.ownBlock = some k
theorem DeqAt.len {w : World} {d : Nat} {v : Value} {gs : List Nat} {cs : List (List Txt)} (h : DeqAt w d v gs cs) : gs.length = cs.length := by
  have := h.row.1; simpa using this
theorem DeqAt.chg {w w' : World} {d : Nat} {v : Value} {gs : List Nat} {cs : List (List Txt)} {S : Nat → Prop} (h : DeqAt w d v gs cs) (hc : Chg S w w') (hS : ∀ k, Foot d v gs k → ¬ S k) : DeqAt w' d v gs cs :=
  ⟨hc.heap h.head (hS d (.inl rfl)), Chg.ownsRow h.row hc fun k hk => hS k (.inr (.inr hk)), fun i g c hg hc' => hc.heap (h.chunk i g c hg hc') (hS g (.inr (.inl (List.mem_of_getElem? hg)))), h.nodup, h.notd, h.rowd, h.rowg⟩
theorem DeqAt.lt {w : World} {d : Nat} {v : Value} {gs : List Nat} {cs : List (List Txt)} (h : DeqAt w d v gs cs) : ∀ k, Foot d v gs k → k < w.heap.size := by
  intro k hk
  rcases hk with rfl | hk | hk
  · exact block_lt h.head
  · obtain ⟨i, hi, rfl⟩ := List.mem_iff_getElem.1 hk
    have hl := h.len
    exact block_lt (h.chunk i _ _ (List.getElem?_eq_getElem hi) (List.getElem?_eq_getElem (by omega)))
  · exact (h.row.lt k hk).2
theorem three {w : World} {g : Nat} {c0 c1 c2 : Value} {t : TypeId} (h : w.heap[g]? = some (.cells #[c0, c1, c2] t)) :
    (w.cell? ⟨g, 0, none⟩ = some c0 ∧ w.cell? ⟨g, 1, none⟩ = some c1 ∧ w.cell? ⟨g, 2, none⟩ = some c2) ∧ ∀ j, w.frozen? ⟨g, j, none⟩ = false := by
  refine ⟨⟨?_, ?_, ?_⟩, fun j => frozen_of_row w g j _ _ h⟩ <;> rw [cell_of_row w g _ _ _ _ h] <;> rfl
/-- The row's own block, and the pointer at a place. -/
theorem DeqAt.at {w : World} {d : Nat} {v : Value} {gs : List Nat} {cs : List (List Txt)} (h : DeqAt w d v gs cs) {k : Nat} {c : List Txt} (hk : cs[k]? = some c) :
    ∃ g sb cap, gs[k]? = some g ∧ v = .slice (some ⟨sb, 0, none⟩) cs.length cap ∧ k < cs.length ∧ cs.length ≤ cap ∧ w.cell? ⟨sb, k, none⟩ = some (.pointer (some ⟨g, 0, none⟩)) ∧ ChunkAt w g c := by
  have hkl := (List.getElem?_eq_some_iff.1 hk).1
  have hl := h.len
  obtain ⟨g, hg⟩ : ∃ g, gs[k]? = some g := ⟨_, List.getElem?_eq_getElem (by omega)⟩
  rcases h.row.2 with ⟨_, h0⟩ | ⟨sb, cap, cur, rfl, _, hb, hnc, _, _, _⟩
  · omega
  · refine ⟨g, sb, cap, hg, rfl, hkl, hnc, ?_, h.chunk k g c hg hk⟩
    rw [h.row.cellAt k (by omega), List.getElem?_map, hg]
    rfl
theorem ChunkAt.n {w : World} {g : Nat} {c : List Txt} (h : ChunkAt w g c) (hc : c.length ≤ 32) : w.cell? ⟨g, 32, none⟩ = some (.int .i64 (c.length : Nat)) := by
  rw [cell_of_row w g 32 _ _ _ h, ← Array.getElem?_toList, List.toList_toArray, chunkL_n hc]
theorem ChunkAt.text {w : World} {g : Nat} {c : List Txt} (h : ChunkAt w g c) {p : Nat} {x : Txt} (hp : c[p]? = some x) : w.cell? ⟨g, p, none⟩ = some (.string ⟨x.toArray⟩) := by
  rw [cell_of_row w g p _ _ _ h, ← Array.getElem?_toList, List.toList_toArray, chunkL_text hp]; rfl

theorem mk_size (x : List UInt8) : (⟨x.toArray⟩ : ByteArray).size = x.length := by simp [ByteArray.size]
theorem weight_any (s : ByteArray) (w : World) (hs : s.size ≤ 140737488351232) : Calls Try.prog 57 #[.string s] w fun e w' => e = .returned (.int .i64 (16 + (s.size : Int))) ∧ w = w' := by
  go_enter Try.func57, Try.ntmps57
  go_wp2
  go_ret
  exact ⟨rfl, rfl⟩

/-- One chunk has been changed, then the head. -/
theorem DeqAt.changed {w w1 w2 : World} {d : Nat} {v : Value} {gs : List Nat} {cs : List (List Txt)} (h : DeqAt w d v gs cs) {k g : Nat} {c' : List Txt} (hg : gs[k]? = some g)
    (h1 : Upd g (.cells (chunkL c').toArray 66) w w1) (h2 : Upd d (.cells #[v, .int .i64 (total (cs.set k c') : Nat), .int .i64 (costOf (cs.set k c') : Nat)] 62) w1 w2) :
    DeqAt w2 d v gs (cs.set k c') := by
  have hgd : g ≠ d := fun e => h.notd (by rw [← e]; exact List.mem_of_getElem? hg)
  refine ⟨h2.here, ?_, ?_, h.nodup, h.notd, h.rowd, h.rowg⟩
  · rw [List.length_set]
    refine Chg.ownsRow (Chg.ownsRow h.row h1.chg fun j hj e => ?_) h2.chg fun j hj e => ?_
    · subst e; exact h.rowg _ hj (List.mem_of_getElem? hg)
    · subst e; exact h.rowd hj
  · intro i gi c hi hc
    have hgi : gi ≠ d := fun e => h.notd (by rw [← e]; exact List.mem_of_getElem? hi)
    rw [List.getElem?_set] at hc
    unfold ChunkAt
    rw [h2.other gi hgi]
    by_cases hik : k = i
    · subst hik
      rw [hg] at hi; cases hi
      rw [if_pos rfl] at hc
      split at hc
      · cases hc; exact h1.here
      · cases hc
    · rw [if_neg hik] at hc
      have hne : gi ≠ g := fun e => hik (nodup_inj h.nodup hg (by rw [hi, e]))
      rw [h1.other gi hne]
      exact h.chunk i gi c hi hc

/-- What a change leaves: the head's block, the row and the chunks stay where they are. -/
def StayPost (d : Nat) (v : Value) (gs : List Nat) (cs' : List (List Txt)) (r : Value) (w : World) (e : Ending) (w' : World) : Prop := e = .returned r ∧ DeqAt w' d v gs cs' ∧ Chg (Foot d v gs) w w'

set_option maxHeartbeats 4000000 in
set_option maxRecDepth 100000 in
theorem lay_any (w : World) (d : Nat) (v : Value) (gs : List Nat) (cs : List (List Txt)) (k p : Nat) (c : List Txt) (s : Txt) (h : DeqAt w d v gs cs) (hk : cs[k]? = some c) (hc : c.length < 32) (hp : p ≤ c.length) (hf : Fits cs) (ht : total cs < 1048576) (hs : s.length ≤ 1048576) :
    Calls Try.prog 35 #[.pointer (some ⟨d, 0, none⟩), .int .i64 k, .int .i64 p, .string ⟨s.toArray⟩] w (StayPost d v gs (cs.set k (insAt c p s)) (.tuple #[]) w) := by
  obtain ⟨g, sb, cap, hg, hv, hkl, hnc, hcell, hch⟩ := h.at hk
  obtain ⟨⟨d0, d1, d2⟩, df⟩ := three h.head
  have hgd : g ≠ d := fun e => h.notd (by rw [← e]; exact List.mem_of_getElem? hg)
  have hT := total_set (c' := insAt c p s) hk
  have hC := costOf_set (c' := insAt c p s) hk
  rw [insAt_length hp] at hT
  rw [insAt_cost] at hC
  have hcl := costOf_le hf.text
  have hrl := hf.rows
  subst hv
  obtain ⟨m, hm⟩ : ∃ m, cs.length = m := ⟨_, rfl⟩
  obtain ⟨N, hN⟩ : ∃ N, total cs = N := ⟨_, rfl⟩
  obtain ⟨C, hC2⟩ : ∃ C, costOf cs = C := ⟨_, rfl⟩
  rw [hm] at hkl hnc hrl
  rw [hN] at d1 ht hT hcl
  rw [hC2] at d2 hC hcl
  have HT := Lib.hid (show ((total (cs.set k (insAt c p s)) : Nat) : Int) = (N : Int) + 1 by omega)
  have HC := Lib.hid (show ((costOf (cs.set k (insAt c p s)) : Nat) : Int) = (C : Int) + (16 + (s.length : Int)) by omega)
  have HD := Lib.hid h
  have HCH := Lib.hid hch
  have HG := Lib.hid hg
  have HH := Lib.hid h.head
  have HM := Lib.hid hm
  have HN := Lib.hid hN
  have HC2 := Lib.hid hC2
  rw [hm] at d0
  clear hT hC h hch hg hk hf hm hN hC2 df
  have hCb : C ≤ 1048576 * 1048592 := Nat.le_trans hcl (Nat.mul_le_mul_right _ (by omega))
  clear hcl
  have hw1 : IntKind.i64.wrap ((C : Int) + (16 + (s.length : Int))) = (C : Int) + (16 + (s.length : Int)) := by rw [IntKind.wrap_i64]; omega
  have hki : (k : Int) < (m : Int) := by omega
  have hk0 : (0 : Int) ≤ (k : Int) := by omega
  go_enter Try.func35, Try.ntmps35
  go_wp2_with fail
  refine (put_any _ g p s c HCH.out hc hp).mono ?_
  rintro e w1 ⟨rfl, hU⟩
  have hd1 : w1.heap[d]? = some (.cells #[.slice (some ⟨sb, 0, none⟩) m cap, .int .i64 (N : Nat), .int .i64 (C : Nat)] 62) := by
    rw [hU.other d (fun e => hgd e.symm), HH.out, HM.out, HN.out, HC2.out]
  obtain ⟨⟨e0, e1, e2⟩, ef⟩ := three hd1
  have ef1 := ef 1
  have ef2 := ef 2
  have HU := Lib.hid hU
  have HD1 := Lib.hid hd1
  clear hU hd1 ef d0 d1 d2 hcell
  go_wp2_with fail
  go_region_with (go_at_call 57; refine (weight_any _ _ (by rw [mk_size]; omega)).mono ?_; rintro e w' ⟨rfl, rfl⟩)
  all_goals
    go_end0
    have hU2 := (((Upd.same HD1.out).setCell 1 (.int .i64 ((N : Int) + 1))).setCell 2 (.int .i64 ((C : Int) + (16 + (s.length : Int))))).drew
    refine ⟨rfl, DeqAt.changed HD.out HG.out HU.out (by rw [HM.out, HT.out, HC.out]; exact hU2), ?_⟩
    refine (HU.out.chg.mono fun j _ e => ?_).trans (hU2.chg) fun j _ e => .inl e
    subst e; exact .inr (.inl (List.mem_of_getElem? HG.out))
end Go.Proofs.Ytefoieloakfhfaa
