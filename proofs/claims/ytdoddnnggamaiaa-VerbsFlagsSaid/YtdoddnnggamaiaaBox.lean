/- A result that lies in a variable of six cells: how a function ends. -/
import Derived.Test.YtdoddnnggamaiaaFind
namespace Go.Proofs.Ytdoddnnggamaiaa
open Go.RowKit Pantry

theorem bodyPost_box {fn : Func} {R : Ending → World → Prop} {a : Act} {w : World} (B : Nat) (c0 c1 c2 c3 c4 c5 v : Value) (hres : fn.results = #[.cell 2 29, .tmp 3])
    (h2 : a.tmps.getD 2 undef = .pointer (some ⟨B, 0, none⟩)) (h3 : a.tmps.getD 3 undef = v) (hd : a.defers = []) (hw : w.heap[B]? = some (.cells #[c0, c1, c2, c3, c4, c5] 29))
    (hR : R (.returned (.tuple #[.agg #[c0, c1, c2, c3, c4, c5], v])) w) : bodyPost Try.prog fn R .ret a w := by
  obtain ⟨⟨d0, d1, d2, d3, d4, d5⟩, -⟩ := box6 hw
  have h2' : a.tmps[2]?.getD undef = .pointer (some ⟨B, 0, none⟩) := by simpa using h2
  have h3' : a.tmps[3]?.getD undef = v := by simpa using h3
  refine bodyPost_ret (v := .tuple #[.agg #[c0, c1, c2, c3, c4, c5], v]) ?_ hd hR
  simp [results, hres, go_sem, h2', h3', d0, d1, d2, d3, d4, d5]

theorem box_set {w : World} {g : Nat} {c0 c1 c2 c3 c4 c5 : Value} (h : w.heap[g]? = some (.cells #[c0, c1, c2, c3, c4, c5] 29)) (v0 v1 v2 v3 v4 v5 : Value) :
    ((((((w.setCell ⟨g, 0, none⟩ v0).setCell ⟨g, 1, none⟩ v1).setCell ⟨g, 2, none⟩ v2).setCell ⟨g, 3, none⟩ v3).setCell ⟨g, 4, none⟩ v4).setCell ⟨g, 5, none⟩ v5).heap[g]? = some (.cells #[v0, v1, v2, v3, v4, v5] 29) :=
  heap_setCell_same _ g 5 _ _ _ (heap_setCell_same _ g 4 _ _ _ (heap_setCell_same _ g 3 _ _ _ (heap_setCell_same _ g 2 _ _ _ (heap_setCell_same _ g 1 _ _ _ (heap_setCell_same _ g 0 _ _ _ h)))))
theorem below_box {B : Nat} {a w : World} (h : Below B a w) {g : Nat} (hg : B ≤ g) (v0 v1 v2 v3 v4 v5 : Value) :
    Below B a ((((((w.setCell ⟨g, 0, none⟩ v0).setCell ⟨g, 1, none⟩ v1).setCell ⟨g, 2, none⟩ v2).setCell ⟨g, 3, none⟩ v3).setCell ⟨g, 4, none⟩ v4).setCell ⟨g, 5, none⟩ v5) :=
  (((((h.setCell hg _).setCell hg _).setCell hg _).setCell hg _).setCell hg _).setCell hg _
theorem size_box {w : World} {g : Nat} (v0 v1 v2 v3 v4 v5 : Value) :
    ((((((w.setCell ⟨g, 0, none⟩ v0).setCell ⟨g, 1, none⟩ v1).setCell ⟨g, 2, none⟩ v2).setCell ⟨g, 3, none⟩ v3).setCell ⟨g, 4, none⟩ v4).setCell ⟨g, 5, none⟩ v5).heap.size = w.heap.size := by simp
end Go.Proofs.Ytdoddnnggamaiaa
