/- Copy: one round, plain. -/
import Derived.Test.YtefoieloakfhfaaCopy
namespace Go.Proofs.Ytefoieloakfhfaa
open Go.RowKit Pantry

theorem CopyInv.step {d2 : Nat} {gs2 : List Nat} {cs : List (List Txt)} {k : Nat} {w wr w3 w4 : World} {v2 v3 : Value} {c : List Txt} (h : CopyInv d2 gs2 cs k w wr v2) (hc : cs[k]? = some c)
    (hn : w3.heap[wr.heap.size]? = some (.cells (chunkL c).toArray 66)) (hs : w3.heap.size = wr.heap.size + 1) (hcg : Chg (fun _ => False) wr w3)
    (hown : w4.ownsRow (d2 + 1) 67 1 v3 (k + 1) ((gs2 ++ [wr.heap.size]).map ptr)) (hg : w3.grownBy w4 v2.ownBlock) (hv : ∀ q, v3.ownBlock = some q → v2.ownBlock = some q ∨ w3.heap.size ≤ q) :
    CopyInv d2 (gs2 ++ [wr.heap.size]) cs (k + 1) w (w4.setCell ⟨d2, 0, none⟩ v3) v3 := by
  have hl : gs2.length = k := by have := h.row.1; simpa using this
  have hd := block_lt h.head
  have hlt2 : ∀ q, v2.ownBlock = some q → d2 + 1 ≤ q ∧ q < wr.heap.size := fun q hq => h.row.lt q hq
  have hcg1 : Chg (fun q => v2.ownBlock = some q) w3 w4 := Chg.of_grown hg fun q e => e
  have hhd : w4.heap[d2]? = some (.cells #[v2, .int .i64 (total cs : Nat), .int .i64 (costOf cs : Nat)] 62) := hcg1.heap (hcg.heap h.head (fun e => e)) (fun e => by have := (hlt2 d2 e).1; omega)
  have hU := (Upd.same hhd).setCell 0 v3
  have hold := h.old
  have hsz : w3.heap.size ≤ w4.heap.size := hcg1.size
  refine ⟨hU.here, ?_, ?_, ?_, ?_, ?_, ?_, h.old⟩
  · refine Chg.ownsRow hown hU.chg fun j hj e => ?_
    have := (hown.lt j hj).1
    omega
  · intro i g ci hi hci
    have key : w4.heap[g]? = some (.cells (chunkL ci).toArray 66) ∧ g ≠ d2 := by
      by_cases hik : i < gs2.length
      · rw [List.getElem?_append_left hik] at hi
        have hm := List.mem_of_getElem? hi
        have hf := h.fresh g hm
        exact ⟨hcg1.heap (hcg.heap (h.chunk i g ci hi hci) (fun e => e)) (fun e => h.rowg g e hm), by omega⟩
      · rw [List.getElem?_append_right (by omega)] at hi
        have h0 : i - gs2.length = 0 := by
          by_cases e : i - gs2.length = 0
          · exact e
          · rw [List.getElem?_eq_none (by simp; omega)] at hi; cases hi
        rw [h0] at hi
        have e1 : wr.heap.size = g := by simpa using hi
        have e2 : i = k := by omega
        subst e1 e2
        rw [hc] at hci
        cases hci
        exact ⟨hcg1.heap hn (fun e => by have := (hlt2 _ e).2; omega), by omega⟩
    exact (hU.other g key.2).trans key.1
  · rw [List.nodup_append]
    refine ⟨h.nodup, by simp, ?_⟩
    intro a ha b hb e
    have hb2 : b = wr.heap.size := by simpa using hb
    have := (h.fresh a ha).2
    omega
  · intro g hgm
    have e1 : (w4.setCell ⟨d2, 0, none⟩ v3).heap.size = w4.heap.size := hU.size
    rcases List.mem_append.1 hgm with hm | hm
    · have := h.fresh g hm; omega
    · have : g = wr.heap.size := by simpa using hm
      omega
  · intro j hj hm
    rcases List.mem_append.1 hm with hm | hm
    · have hf := h.fresh j hm
      rcases hv j hj with e | e
      · exact h.rowg j e hm
      · omega
    · have hjg : j = wr.heap.size := by simpa using hm
      rcases hv j hj with e | e
      · have := (hlt2 j e).2; omega
      · omega
  · refine h.chg.trans ((hcg.mono (T := fun q => d2 ≤ q) fun q _ e => e.elim).trans ((hcg1.mono (T := fun q => d2 ≤ q) fun q _ e => by have := (hlt2 q e).1; omega).trans (hU.chg) fun q _ (e : q = d2) => by omega) fun q _ e => e) fun q hq (e : d2 ≤ q) => by omega
/-- The world in which a chunk has been copied. -/
theorem copied {wr w3 : World} {z cells : Array Value} {t : TypeId} (hw : (wr.alloc (.cells z t)).setRow wr.heap.size cells = w3) : w3.heap[wr.heap.size]? = some (.cells cells t) ∧ w3.heap.size = wr.heap.size + 1 ∧ Chg (fun _ => False) wr w3 := by
  subst hw
  refine ⟨setRow_heap _ _ _ _ _ _ (heap_alloc_new wr _), by simp [World.setRow], ?_⟩
  exact ((Chg.refl _ wr).alloc _).setRow (fun e => absurd e (Nat.lt_irrefl _)) _
end Go.Proofs.Ytefoieloakfhfaa
