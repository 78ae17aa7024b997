/- The pieces of the program's table: what rowsOne, rowsTwo, rowsThree and parts return. -/
import Derived.Test.YtdoddnnggamaiaaRows
import Derived.Test.YtdoddnnggamaiaaMem
import Derived.Test.YtdoddnnggamaiaaTab
namespace Go.Proofs.Ytdoddnnggamaiaa
open Go.RowKit Pantry

def rowCells (r : Verbs.Row) : List Value := [.string ⟨r.name.toArray⟩, .int .i64 r.arity, .int .i64 r.flags, .int .i64 r.first, .int .i64 r.last, .int .i64 r.jump]
def tabCells (l : List Verbs.Row) : List Value := l.flatMap rowCells

def frameOf : Stepped → Frame
  | .next m => (m.gs[0]?.map (·.frame)).getD default
  | _ => default
/-- What is seen of a run's end. -/
def seen (P : Program) (fn : Func) (s : Stepped) (w : World) := (s, (frameOf s).fn, (frameOf s).mode, (frameOf s).defers, (frameOf s).kind, (results fn (frameOf s).tmps).run P w)
theorem calls_seen {P : Program} {f : FuncId} {args : Array Value} {w w' : World} {v : Value} (n : Nat) (fn : Func) (hf : P.funcs[f]? = some fn)
   (h : ∀ cs, seen P fn (runN P n (lone (Frame.enter P f args .normal) cs w)) w' =
     (.next (lone (frameOf (runN P n (lone (Frame.enter P f args .normal) cs w))) cs w'), f, .returning, [], .normal, .ok v w')) :
   Calls P f args w fun e w1 => e = .returned v ∧ w1 = w' := by
  intro cs
  have h0 := h cs
  simp only [seen, Prod.mk.injEq] at h0
  obtain ⟨h1, h2, h3, h4, h5, h6⟩ := h0
  exact ⟨.returned v, w', _, ⟨rfl, rfl⟩, ⟨n, h1⟩, h2, h3, h4, h5, fn, by rw [h2]; exact hf, h6⟩

theorem run37 (w : World) (cs : List Frame) : seen Try.prog Try.f37 (runN Try.prog 50 (lone (Frame.enter Try.prog 37 #[] .normal) cs w)) (w.alloc (.cells (tabCells Verbs.one).toArray 29)) =
  (.next (lone (frameOf (runN Try.prog 50 (lone (Frame.enter Try.prog 37 #[] .normal) cs w))) cs (w.alloc (.cells (tabCells Verbs.one).toArray 29))), 37, .returning, [], .normal,
   .ok (.slice (some ⟨w.heap.size, 0, none⟩) 40 40) (w.alloc (.cells (tabCells Verbs.one).toArray 29))) := by kernel_rfl
theorem run38 (w : World) (cs : List Frame) : seen Try.prog Try.f38 (runN Try.prog 50 (lone (Frame.enter Try.prog 38 #[] .normal) cs w)) (w.alloc (.cells (tabCells Verbs.two).toArray 29)) =
  (.next (lone (frameOf (runN Try.prog 50 (lone (Frame.enter Try.prog 38 #[] .normal) cs w))) cs (w.alloc (.cells (tabCells Verbs.two).toArray 29))), 38, .returning, [], .normal,
   .ok (.slice (some ⟨w.heap.size, 0, none⟩) 40 40) (w.alloc (.cells (tabCells Verbs.two).toArray 29))) := by kernel_rfl
theorem run39 (w : World) (cs : List Frame) : seen Try.prog Try.f39 (runN Try.prog 43 (lone (Frame.enter Try.prog 39 #[] .normal) cs w)) (w.alloc (.cells (tabCells Verbs.three).toArray 29)) =
  (.next (lone (frameOf (runN Try.prog 43 (lone (Frame.enter Try.prog 39 #[] .normal) cs w))) cs (w.alloc (.cells (tabCells Verbs.three).toArray 29))), 39, .returning, [], .normal,
   .ok (.slice (some ⟨w.heap.size, 0, none⟩) 33 33) (w.alloc (.cells (tabCells Verbs.three).toArray 29))) := by kernel_rfl

theorem rowsOne_any (w : World) : Calls Try.prog 37 #[] w fun e w' => e = .returned (.slice (some ⟨w.heap.size, 0, none⟩) 40 40) ∧ w' = w.alloc (.cells (tabCells Verbs.one).toArray 29) :=
  calls_seen 50 Try.f37 Try.func37 (run37 w)
theorem rowsTwo_any (w : World) : Calls Try.prog 38 #[] w fun e w' => e = .returned (.slice (some ⟨w.heap.size, 0, none⟩) 40 40) ∧ w' = w.alloc (.cells (tabCells Verbs.two).toArray 29) :=
  calls_seen 50 Try.f38 Try.func38 (run38 w)
theorem rowsThree_any (w : World) : Calls Try.prog 39 #[] w fun e w' => e = .returned (.slice (some ⟨w.heap.size, 0, none⟩) 33 33) ∧ w' = w.alloc (.cells (tabCells Verbs.three).toArray 29) :=
  calls_seen 43 Try.f39 Try.func39 (run39 w)

theorem flatMap_at {α : Type} (f : α → List Value) (size : Nat) (hf : ∀ x, (f x).length = size) : ∀ (l : List α) (h k : Nat) (x : α), l[h]? = some x → k < size → (l.flatMap f)[h * size + k]? = (f x)[k]?
  | [], h, k, x, hx, _ => by simp at hx
  | y :: l, 0, k, x, hx, hk => by
    simp at hx; subst hx
    simp only [List.flatMap_cons, Nat.zero_mul, Nat.zero_add]
    rw [List.getElem?_append_left (by rw [hf]; exact hk)]
  | y :: l, h + 1, k, x, hx, hk => by
    simp only [List.flatMap_cons]
    rw [List.getElem?_append_right (by rw [hf, Nat.succ_mul]; omega), hf]
    rw [show (h + 1) * size + k - size = h * size + k by rw [Nat.succ_mul]; omega]
    exact flatMap_at f size hf l h k x (by simpa using hx) hk
theorem flatMap_length {α : Type} (f : α → List Value) (size : Nat) (hf : ∀ x, (f x).length = size) (l : List α) : (l.flatMap f).length = l.length * size := by
  induction l with
  | nil => simp
  | cons y l ih => simp [List.flatMap_cons, ih, hf, Nat.succ_mul, Nat.add_comm]

/-- The six cells of a row of the table. -/
theorem tab_cells {w : World} {g : Nat} {l : List Verbs.Row} (hg : w.heap[g]? = some (.cells (tabCells l).toArray 29)) {h : Nat} {r : Verbs.Row} (hr : l[h]? = some r) :
    w.cell? ⟨g, h * 6, none⟩ = some (.string ⟨r.name.toArray⟩) ∧ w.cell? ⟨g, h * 6 + 1, none⟩ = some (.int .i64 r.arity) ∧ w.cell? ⟨g, h * 6 + 2, none⟩ = some (.int .i64 r.flags) ∧
    w.cell? ⟨g, h * 6 + 3, none⟩ = some (.int .i64 r.first) ∧ w.cell? ⟨g, h * 6 + 4, none⟩ = some (.int .i64 r.last) ∧ w.cell? ⟨g, h * 6 + 5, none⟩ = some (.int .i64 r.jump) := by
  have e : ∀ k, k < 6 → w.cell? ⟨g, h * 6 + k, none⟩ = (rowCells r)[k]? := by
    intro k hk
    rw [cell_of_row w g _ _ _ _ hg]
    have := flatMap_at rowCells 6 (fun _ => rfl) l h k r hr hk
    simpa [tabCells] using this
  exact ⟨e 0 (by decide), e 1 (by decide), e 2 (by decide), e 3 (by decide), e 4 (by decide), e 5 (by decide)⟩

end Go.Proofs.Ytdoddnnggamaiaa
