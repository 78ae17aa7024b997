/- Copy. -/
import Derived.Test.YtefoieloakfhfaaEach
namespace Go.Proofs.Ytefoieloakfhfaa
open Go.RowKit Pantry

/-- The copy within the loop: k chunks are copied; the head has the whole's numbers already. -/
structure CopyInv (d2 : Nat) (gs2 : List Nat) (cs : List (List Txt)) (k : Nat) (w wr : World) (v2 : Value) : Prop where
  head : wr.heap[d2]? = some (.cells #[v2, .int .i64 (total cs : Nat), .int .i64 (costOf cs : Nat)] 62)
  row : wr.ownsRow (d2 + 1) 67 1 v2 k (gs2.map ptr)
  chunk : ∀ (i g : Nat) (c : List Txt), gs2[i]? = some g → cs[i]? = some c → ChunkAt wr g c
  nodup : gs2.Nodup
  fresh : ∀ g ∈ gs2, d2 < g ∧ g < wr.heap.size
  rowg : ∀ j, v2.ownBlock = some j → j ∉ gs2
  chg : Chg (fun _ => False) w wr
  old : w.heap.size ≤ d2
/-- A copy: all its blocks are new. -/
def CopyPost (cs : List (List Txt)) (w : World) (e : Ending) (w' : World) : Prop :=
  ∃ d2 v2 gs2, e = .returned (.pointer (some ⟨d2, 0, none⟩)) ∧ DeqAt w' d2 v2 gs2 cs ∧ Chg (fun _ => False) w w' ∧ ∀ j, Foot d2 v2 gs2 j → w.heap.size ≤ j
theorem CopyInv.post {d2 : Nat} {gs2 : List Nat} {cs : List (List Txt)} {w wr : World} {v2 : Value} (h : CopyInv d2 gs2 cs cs.length w wr v2) : CopyPost cs w (.returned (.pointer (some ⟨d2, 0, none⟩))) wr := by
  have hr : ∀ j, v2.ownBlock = some j → d2 + 1 ≤ j := fun j hj => (h.row.lt j hj).1
  refine ⟨d2, v2, gs2, rfl, ⟨h.head, ⟨h.row.1, h.row.2.imp id fun ⟨g, cap, cur, a, _, c⟩ => ⟨g, cap, cur, a, Nat.zero_le _, c⟩⟩, h.chunk, h.nodup, fun hm => by have := (h.fresh d2 hm).1; omega, fun e => by have := hr d2 e; omega, h.rowg⟩, h.chg, fun j hj => ?_⟩
  have := h.old
  rcases hj with rfl | hj | hj
  · exact h.old
  · have := (h.fresh j hj).1; omega
  · have := hr j hj; omega
end Go.Proofs.Ytefoieloakfhfaa
