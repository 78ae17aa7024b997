
/- General laws on memory, over any program: rows that are read, rows of the call's own, append in one form. -/
import Derived.WalkKit
import Derived.WalkSpells
import Derived.WalkLawsBesides
import Derived.Lib.Hide
import Derived.BigQuiet
import Derived.Deep.QuietTactic
import Derived.Laws.AppendOwnNone
import Derived.Laws.CopyOwn
import Derived.Laws.OwnMore
import Derived.Laws.Externs
import Derived.Lib.Overlaps
import Derived.Lib.AppendZeros
import Derived.Lib.JoinLaws
import Derived.Deep.RegionLaw
namespace Pantry
open Go Go.RowKit

/-- From the address a on lie the cells xs, each of one cell. -/
def Rd (w : World) (a : Option Addr) (xs : List Value) : Prop :=
  ∀ j u, xs[j]? = some u → u.oneCell' = true ∧ ∃ x, a = some x ∧ w.cell? (x.add j) = some u

theorem Rd.nil (w : World) (a : Option Addr) : Rd w a [] := by intro j u h; simp at h
theorem Rd.one {w : World} {a : Option Addr} {xs : List Value} (h : Rd w a xs) : ∀ u ∈ xs, u.oneCell' = true := by
  intro u hu
  obtain ⟨j, hj, rfl⟩ := List.mem_iff_getElem.1 hu
  exact (h j _ (List.getElem?_eq_getElem hj)).1
theorem Rd.cell {w : World} {a : Option Addr} {xs : List Value} (h : Rd w a xs) (j : Nat) (hj : j < xs.length) : ∃ x, a = some x ∧ w.cell? (x.add j) = some xs[j] :=
  (h j _ (List.getElem?_eq_getElem hj)).2
theorem Rd.block_lt {w : World} {a : Option Addr} {xs : List Value} (h : Rd w a xs) (hne : xs ≠ []) : ∃ x, a = some x ∧ x.block < w.heap.size := by
  cases xs with
  | nil => exact absurd rfl hne
  | cons u l =>
    obtain ⟨_, x, hx, hc⟩ := h 0 u rfl
    exact ⟨x, hx, by have := World.block_lt_of_cell? w _ hc; simpa [Addr.add] using this⟩
theorem Addr.add_block (x : Addr) (j : Nat) : (x.add j).block = x.block := by unfold Addr.add; split <;> rfl
theorem Addr.add_base (g j : Nat) : (⟨g, 0, none⟩ : Addr).add j = ⟨g, j, none⟩ := by unfold Addr.add; split <;> simp_all
/-- Cells are kept where their block is kept. -/
theorem Rd.of_block {w w' : World} {a : Option Addr} {xs : List Value} (h : Rd w a xs) (hb : ∀ x, a = some x → x.block < w.heap.size → w'.heap[x.block]? = w.heap[x.block]?) : Rd w' a xs := by
  intro j u hu
  obtain ⟨h1, x, hx, hc⟩ := h j u hu
  refine ⟨h1, x, hx, ?_⟩
  have hlt := World.block_lt_of_cell? w _ hc
  rw [Addr.add_block] at hlt
  rw [World.cell?_of_block (w := w) (by rw [Addr.add_block]; exact hb x hx hlt)]
  exact hc
theorem Rd.below {w w' : World} {a : Option Addr} {xs : List Value} (h : Rd w a xs) (hb : Below w.heap.size w w') : Rd w' a xs :=
  h.of_block fun x _ hlt => hb.block x.block hlt
theorem Rd.belowB {w w' : World} {B : Nat} {a : Option Addr} {xs : List Value} (h : Rd w a xs) (hb : Below B w w') (hB : ∀ x, a = some x → x.block < B) : Rd w' a xs :=
  h.of_block fun x hx _ => hb.block x.block (hB x hx)
theorem Rd.alloc {w : World} {a : Option Addr} {xs : List Value} (h : Rd w a xs) (o : Obj) : Rd (w.alloc o) a xs :=
  h.below ((Below.refl _ _).alloc (Nat.le_refl _) o)
theorem Rd.drew {w : World} {a : Option Addr} {xs : List Value} (h : Rd w a xs) : Rd w.drew a xs := h
theorem Rd.drewN {w : World} {n : Nat} {a : Option Addr} {xs : List Value} (h : Rd w a xs) : Rd (w.drewN n) a xs := h
theorem Rd.take {w : World} {a : Option Addr} {xs : List Value} (h : Rd w a xs) (n : Nat) : Rd w a (xs.take n) := by
  intro j u hu
  rw [List.getElem?_take] at hu
  split at hu
  · exact h j u hu
  · cases hu
theorem Rd.new (w : World) (cur : Array Value) (e : TypeId) (fr : Nat × Nat) (h1 : ∀ u ∈ cur, u.oneCell' = true) : Rd (w.alloc (.cells cur e fr)) (some ⟨w.heap.size, 0, none⟩) cur.toList := by
  intro j u hu
  have hu' : cur[j]? = some u := by simpa using hu
  refine ⟨h1 u ?_, _, rfl, ?_⟩
  · obtain ⟨hj, rfl⟩ := Array.getElem?_eq_some_iff.1 hu'
    exact Array.getElem_mem hj
  · have hadd : (⟨w.heap.size, 0, none⟩ : Addr).add j = ⟨w.heap.size, j, none⟩ := by unfold Addr.add; split <;> simp_all
    rw [hadd]
    unfold World.cell?
    rw [heap_alloc_new]
    simpa using hu'

/-- What is known of a slice type and its element's type. -/
structure ElemT (P : Program) (t e : TypeId) (size bytes : Nat) (z : Value) : Prop where
  under : P.underlying t = some (.slice e)
  info : (P.info? e).map (fun i => (i.zero, i.size, i.bytes)) = some (some z, size, bytes)
  zcells : z.cells.size = size
  pos : 0 < size
  bpos : 0 < bytes

theorem ownsRow_rd {w : World} {base : Nat} {e : TypeId} {size : Nat} {v : Value} {n : Nat} {xs : List Value} (h : w.ownsRow base e size v n xs) (h1 : ∀ u ∈ xs, u.oneCell' = true) :
    ∃ a c, v = .slice a n c ∧ Rd w a xs := by
  rcases h.2 with ⟨rfl, rfl⟩ | ⟨g, cap, cur, rfl, hb, hg, hh⟩
  · have : xs = [] := List.eq_nil_of_length_eq_zero (by simpa using h.1)
    subst this
    exact ⟨_, _, rfl, Rd.nil _ _⟩
  · refine ⟨_, _, rfl, fun j u hu => ⟨h1 u (List.mem_of_getElem? hu), _, rfl, h.cells rfl j u hu⟩⟩

section
variable {P : Program} {t e : TypeId} {size bytes : Nat} {z : Value}
/-- An append: its run, the new row, and where it lies: in the old block or in a new one. -/
theorem run_append (E : ElemT P t e size bytes z) (ty : TypeId) {w : World} (base : Nat) {v : Value} {n : Nat} {xs : List Value} (hown : w.ownsRow base e size v n xs)
    {ad : Option Addr} {m c : Nat} {news : List Value} (hnil : ad = none → c = 0) (hl : news.length = m * size) (hrd : Rd w ad news)
    (hbytes : (n + m) * bytes ≤ 140737488355328) (hbase : base ≤ w.heap.size) :
    ∃ v' w', (Builtin.append_ #[t, t] ty #[v, .slice ad m c]).run P w = .ok v' w' ∧ w'.ownsRow base e size v' (n + m) (xs ++ news) ∧ w.grownBy w' v.ownBlock ∧
      (v' = .slice none 0 0 ↔ v = .slice none 0 0 ∧ m = 0) ∧ (∀ k, v'.ownBlock = some k → v.ownBlock = some k ∨ w.heap.size ≤ k) := by
  obtain ⟨i0, hi, hz0, hz1, hz2⟩ := info_parts E.info
  have hnm : n + m ≤ (n + m) * bytes := Nat.le_mul_of_pos_right _ E.bpos
  cases ad with
  | none =>
    have hc := hnil rfl
    subst hc
    have hn : news = [] := by
      cases news with
      | nil => rfl
      | cons u l => obtain ⟨_, y, hy, _⟩ := hrd 0 u rfl; cases hy
    subst hn
    have hm : m = 0 := by
      rcases Nat.eq_zero_or_pos m with h0 | h0
      · exact h0
      · have := Nat.mul_pos h0 E.pos; simp at hl; omega
    subst hm
    exact ⟨v, w, run_append_owned_none (P := P) (w := w) base t ty e i0 size E.under hi v n xs hown, by simpa using hown, ⟨rfl, rfl, rfl, Nat.le_refl _, fun _ _ _ => rfl⟩, by simp, fun k hk => Or.inl hk⟩
  | some ad =>
    have hnews : ∀ j u, news[j]? = some u → w.cell? (ad.add j) = some u := fun j u hu => by obtain ⟨_, y, hy, hc⟩ := hrd j u hu; cases hy; exact hc
    obtain ⟨v', w', hr, h1, h2, h3⟩ := run_append_own (P := P) w base t ty e i0 z size bytes E.under hi hz0 hz1 hz2 E.zcells E.pos v n xs hown ad m c news hl hnews hrd.one (by unfold maxLen; omega) hbytes hbase
    refine ⟨v', w', hr, h1, h2, h3, ?_⟩
    subst hz1
    subst hz2
    intro k hk
    rcases hown.2 with ⟨rfl, rfl⟩ | ⟨g, cap, cur, rfl, hbg, hg, hnc, hcm, hcs, htake⟩
    · by_cases hm : m = 0
      · rw [h3.2 ⟨rfl, hm⟩] at hk; simp [Value.ownBlock] at hk
      · have hr2 := run_append_nil (P := P) w t ty e i0 z E.under hi hz0 ad m c news hl hnews (by omega) (by omega) (by have hb := hbytes; simp only [Nat.zero_add] at hb; omega)
        rw [hr] at hr2
        cases hr2
        simp [Value.ownBlock] at hk
        exact Or.inr (by omega)
    · by_cases hroom : n + m ≤ cap
      · have hfit : n * i0.size + news.length ≤ cur.size := by rw [hl, hcs, ← Nat.add_mul]; exact Nat.mul_le_mul_right _ hroom
        have hr2 := run_append_room (P := P) w t ty e i0 E.under hi g n cap cur hg ad m c news hl hnews hrd.one hroom hfit
        rw [hr] at hr2
        cases hr2
        exact Or.inl hk
      · have hr2 := run_append_grow (P := P) w t ty e i0 z E.under hi hz0 ⟨g, 0, none⟩ n cap xs hown.1 (hown.cells (g := g) rfl) ad m c news hl hnews (by omega) (by omega) (growslice_fits (by omega) hbytes)
        rw [hr] at hr2
        cases hr2
        simp [Value.ownBlock] at hk
        exact Or.inr (by omega)

theorem wpl_append (E : ElemT P t e size bytes z) {w : World} {ops : Array Oper} {rest : List Oper} {o : Oper} {a : Act} {Q : Exit → Act → World → Prop} (hgd : o.guard = none) (s x : Operand)
    (ho : o.op = .call { callee := .builtin .append, args := #[s, x], argTypes := #[t, t] })
    (base : Nat) {v : Value} {n : Nat} {xs : List Value} (hs : a.eval s = v) (hown : w.ownsRow base e size v n xs)
    {ad : Option Addr} {m c : Nat} {news : List Value} (hx : a.eval x = .slice ad m c) (hnil : ad = none → c = 0) (hl : news.length = m * size) (hrd : Rd w ad news)
    (hbytes : (n + m) * bytes ≤ 140737488355328) (hbase : base ≤ w.heap.size)
    (h : ∀ v' w', w'.ownsRow base e size v' (n + m) (xs ++ news) → w.grownBy w' v.ownBlock → (∀ k, v'.ownBlock = some k → v.ownBlock = some k ∨ w.heap.size ≤ k) → wpList P ops Q rest (a.put o.dst v') w') : wpList P ops Q (o :: rest) a w := by
  obtain ⟨v', w', hr, h1, h2, _, h4⟩ := run_append E o.type base hown hnil hl hrd hbytes hbase
  refine wpList_plain hgd fun K hK => ?_
  unfold Oper.wp execOp
  simp only [ho, resolve, invoke, builtin, Sem.run_bind, Sem.run_pure, Result.andThen_ok, List.map_toArray, List.map_cons, List.map_nil, hs, hx, hr]
  exact hK _ _ (h v' w' h1 h2 h4)

end

theorem grownBy_below {B : Nat} {a w w' : World} {row : Option Nat} (h : Below B a w) (hg : w.grownBy w' row) (hr : ∀ k, row = some k → B ≤ k) (hB : B ≤ a.heap.size) : Below B a w' :=
  h.grown hg (Nat.le_trans hB h.size) hr

theorem grownBy_alloc_first {w w' : World} {o : Obj} {row : Option Nat} (h : (w.alloc o).grownBy w' row) : w.grownBy w' row :=
  ⟨h.os, h.tape, h.output, by have := h.size; simp at this; omega, fun k hk hne => (h.block k (by simp; omega) hne).trans (Below.heap_alloc w o k hk)⟩
theorem wpl_append1 {P : Program} {t e : TypeId} {size bytes : Nat} {z : Value} (E : ElemT P t e size bytes z) {w : World} {ops : Array Oper} {rest : List Oper} {o : Oper} {a : Act} {Q : Exit → Act → World → Prop} (hgd : o.guard = none) (s x : Operand)
    (ho : o.op = .call { callee := .builtin .append, args := #[s, x], argTypes := #[t, t] })
    (base : Nat) {v : Value} {n : Nat} {xs : List Value} (hs : a.eval s = v) (hown : w.ownsRow base e size v n xs)
    (us : Array Value) (hx : a.eval x = .slice (some ⟨w.heap.size, 0, none⟩) 1 1) (hl : us.size = size) (h1 : ∀ u ∈ us, u.oneCell' = true)
    (hbytes : (n + 1) * bytes ≤ 140737488355328) (hbase : base ≤ w.heap.size)
    (h : ∀ v' w', w'.ownsRow base e size v' (n + 1) (xs ++ us.toList) → w.grownBy w' v.ownBlock → Below base w w' → (∀ k, v'.ownBlock = some k → v.ownBlock = some k ∨ w.heap.size ≤ k) → wpList P ops Q rest (a.put o.dst v') w') : wpList P ops Q (o :: rest) a (w.alloc (.cells us e)) :=
  wpl_append E hgd s x ho base hs (hown.alloc _) hx (by simp) (by rw [Nat.one_mul]; exact hl) (Rd.new w us e (0, 0) h1) hbytes (by simp; omega) fun v' w' a b c =>
    h v' w' a (grownBy_alloc_first b) ((Below.refl _ _).grown (grownBy_alloc_first b) hbase (fun k hk => (hown.lt k hk).1)) fun k hk => (c k hk).imp id (by simp; omega)
/-- A row of its own stays while what is written lies elsewhere. -/
theorem ownsRow_below {w w' : World} {base B : Nat} {e : TypeId} {size : Nat} {v : Value} {n : Nat} {xs : List Value} (h : w.ownsRow base e size v n xs) (hb : Below B w w') (hB : ∀ k, v.ownBlock = some k → k < B) : w'.ownsRow base e size v n xs := by
  refine ⟨h.1, ?_⟩
  rcases h.2 with hn | ⟨g, cap, cur, rfl, h1, hgg, r⟩
  · exact .inl hn
  · exact .inr ⟨g, cap, cur, rfl, h1, (hb.block g (hB g rfl)).trans hgg, r⟩
theorem ownsRow_belowAll {w w' : World} {base : Nat} {e : TypeId} {size : Nat} {v : Value} {n : Nat} {xs : List Value} (h : w.ownsRow base e size v n xs) (hb : Below w.heap.size w w') : w'.ownsRow base e size v n xs :=
  ownsRow_below h hb fun k hk => (h.lt k hk).2
theorem ownsRow_base {w : World} {base base' : Nat} {e : TypeId} {size : Nat} {v : Value} {n : Nat} {xs : List Value} (h : w.ownsRow base e size v n xs) (hB : base' ≤ base) : w.ownsRow base' e size v n xs := by
  refine ⟨h.1, ?_⟩
  rcases h.2 with hn | ⟨g, cap, cur, rfl, h1, r⟩
  · exact .inl hn
  · exact .inr ⟨g, cap, cur, rfl, by omega, r⟩

/-- It returns v; the world is as it was, but for draws. -/
def QRet (w : World) (v : Value) (e : Ending) (w' : World) : Prop := e = .returned v ∧ ∃ q, w' = w.drewN q
theorem QRet.draws {w : World} {v : Value} {e : Ending} (q : Nat) (h : e = .returned v) : QRet w v e (w.drewN q) := ⟨h, q, rfl⟩
theorem QRet.after {w : World} {q : Nat} {v : Value} {e : Ending} {w' : World} (h : QRet (w.drewN q) v e w') : QRet w v e w' := by
  obtain ⟨h1, r, rfl⟩ := h
  exact ⟨h1, q + r, by simp [World.drewN, Nat.add_assoc]⟩
theorem QRet.below {w : World} {v : Value} {e : Ending} {w' : World} (h : QRet w v e w') : Below w.heap.size w w' := by
  obtain ⟨_, q, rfl⟩ := h
  exact ⟨rfl, rfl, rfl, Nat.le_refl _, fun _ _ => rfl⟩
end Pantry


/- General laws: which blocks may have changed; copies into a row; rows in which elements are put in or taken out. -/
namespace Pantry
open Go Go.RowKit

/-- From w to w' only blocks of S, and new ones, may have changed. -/
structure Chg (S : Nat → Prop) (w w' : World) : Prop where
  os : w'.os = w.os
  tape : w'.tape = w.tape
  output : w'.output = w.output
  size : w.heap.size ≤ w'.heap.size
  block : ∀ k, k < w.heap.size → ¬ S k → w'.heap[k]? = w.heap[k]?
theorem Chg.refl (S : Nat → Prop) (w : World) : Chg S w w := ⟨rfl, rfl, rfl, Nat.le_refl _, fun _ _ _ => rfl⟩
theorem Chg.mono {S T : Nat → Prop} {w w' : World} (h : Chg S w w') (hS : ∀ k, k < w.heap.size → S k → T k) : Chg T w w' :=
  ⟨h.os, h.tape, h.output, h.size, fun k hk hT => h.block k hk fun hs => hT (hS k hk hs)⟩
theorem Chg.trans {S T : Nat → Prop} {a b c : World} (h : Chg S a b) (k : Chg T b c) (hT : ∀ j, j < a.heap.size → T j → S j) : Chg S a c :=
  ⟨k.os.trans h.os, k.tape.trans h.tape, k.output.trans h.output, Nat.le_trans h.size k.size, fun j hj hs =>
    (k.block j (Nat.lt_of_lt_of_le hj h.size) fun ht => hs (hT j hj ht)).trans (h.block j hj hs)⟩
theorem Chg.drew {S : Nat → Prop} {a w : World} (h : Chg S a w) : Chg S a w.drew := ⟨h.os, h.tape, h.output, h.size, h.block⟩
theorem Chg.drewN {S : Nat → Prop} {a w : World} {q : Nat} (h : Chg S a w) : Chg S a (w.drewN q) := ⟨h.os, h.tape, h.output, h.size, h.block⟩
theorem Chg.of_below {S : Nat → Prop} {w w' : World} (h : Below w.heap.size w w') : Chg S w w' := ⟨h.os, h.tape, h.output, h.size, fun k hk _ => h.block k hk⟩
theorem Chg.below {S : Nat → Prop} {B : Nat} {w w' : World} (h : Chg S w w') (hB : B ≤ w.heap.size) (hS : ∀ k, S k → B ≤ k) : Below B w w' :=
  ⟨h.os, h.tape, h.output, h.size, fun k hk => h.block k (Nat.lt_of_lt_of_le hk hB) fun hs => absurd (hS k hs) (by omega)⟩
theorem Chg.of_grown {S : Nat → Prop} {w w' : World} {row : Option Nat} (h : w.grownBy w' row) (hr : ∀ k, row = some k → S k) : Chg S w w' :=
  ⟨h.os, h.tape, h.output, h.size, fun k hk hs => h.block k hk fun e => hs (hr k e.symm)⟩
theorem Chg.alloc {S : Nat → Prop} {a w : World} (h : Chg S a w) (o : Obj) : Chg S a (w.alloc o) :=
  h.trans (T := fun _ => False) (Chg.of_below ((Below.refl _ _).alloc (Nat.le_refl _) o)) fun _ _ h => h.elim
theorem Chg.setCell {S : Nat → Prop} {a w : World} (h : Chg S a w) {p : Addr} (hp : p.block < a.heap.size → S p.block) (u : Value) : Chg S a (w.setCell p u) :=
  h.trans (T := fun k => k = p.block) ⟨rfl, rfl, rfl, by simp, fun k _ hk => Below.heap_setCell w p u k hk⟩ fun j hj e => by subst e; exact hp hj
theorem Chg.setRow {S : Nat → Prop} {a w : World} (h : Chg S a w) {g : Nat} (hp : g < a.heap.size → S g) (c : Array Value) : Chg S a (w.setRow g c) :=
  h.trans (T := fun k => k = g) ⟨rfl, rfl, rfl, by simp [World.setRow], fun k _ hk => setRow_other w g k c hk⟩ fun j hj e => by subst e; exact hp hj
theorem Chg.ownsRow {S : Nat → Prop} {w w' : World} {base : Nat} {e : TypeId} {size : Nat} {v : Value} {n : Nat} {xs : List Value} (h : w.ownsRow base e size v n xs) (hc : Chg S w w') (hS : ∀ k, v.ownBlock = some k → ¬ S k) : w'.ownsRow base e size v n xs := by
  refine ⟨h.1, ?_⟩
  rcases h.2 with hn | ⟨g, cap, cur, rfl, h1, hgg, r⟩
  · exact .inl hn
  · exact .inr ⟨g, cap, cur, rfl, h1, (hc.block g (h.lt g rfl).2 (hS g rfl)).trans hgg, r⟩
theorem Chg.heap {S : Nat → Prop} {w w' : World} (hc : Chg S w w') {k : Nat} {o : Obj} (h : w.heap[k]? = some o) (hk : ¬ S k) : w'.heap[k]? = some o :=
  (hc.block k (Array.getElem?_eq_some_iff.1 h).1 hk).trans h
theorem Chg.rd {S : Nat → Prop} {w w' : World} {a : Option Addr} {xs : List Value} (h : Rd w a xs) (hc : Chg S w w') (hS : ∀ x, a = some x → ¬ S x.block) : Rd w' a xs :=
  h.of_block fun x hx hlt => hc.block x.block hlt (hS x hx)
theorem block_lt {w : World} {k : Nat} {o : Obj} (h : w.heap[k]? = some o) : k < w.heap.size := (Array.getElem?_eq_some_iff.1 h).1

section
variable {P : Program}
/-- A copy into a row that is known whole, elements of any size. -/
theorem run_copy_gen (w : World) (dT sT ty elem : TypeId) (g o dLen dCap : Nat) (a : Addr) (sLen sCap : Nat) (cur : List Value) (t : TypeId) (cs : List Value) (size : Nat)
    (hu : P.underlying dT = some (.slice elem)) (hs : (P.info? elem).map (·.size) = some size)
    (hg : w.heap[g]? = some (.cells cur.toArray t (0, 0))) (hn : cs.length = Nat.min sLen dLen * size)
    (hsrc : ∀ j v, cs[j]? = some v → w.cell? (a.add j) = some v) (hfit : o + cs.length ≤ cur.length) (h1 : ∀ v ∈ cs, v.oneCell' = true) :
    (Builtin.copy_ #[dT, sT] ty #[.slice (some ⟨g, o, none⟩) dLen dCap, .slice (some a) sLen sCap]).run P w =
      .ok (goInt (Nat.min sLen dLen)) (w.setRow g (splice cur o cs).toArray) := by
  have hl := run_loadCells_list (P := P) w a cs hsrc
  have hst := run_storeCells_at P g o t cs 0 cur.toArray w hg (by simpa using hfit) h1
  cases hq : P.info? elem with
  | none => simp [hq] at hs
  | some i =>
    have hi : i.size = size := by simpa [hq] using hs
    simp [Builtin.copy_, run_underlying hu, Builtin.lenOf, Builtin.firstCells, Go.sizeOf, typeInfo, hq, hi, ← hn, hl, hst, splice]
theorem run_copy_zero (w : World) (dT sT ty elem : TypeId) (dp sp : Option Addr) (dLen dCap sLen sCap : Nat) (size : Nat)
    (hu : P.underlying dT = some (.slice elem)) (hs : (P.info? elem).map (·.size) = some size) (hn : Nat.min sLen dLen = 0) :
    (Builtin.copy_ #[dT, sT] ty #[.slice dp dLen dCap, .slice sp sLen sCap]).run P w = .ok (goInt 0) w := by
  cases hq : P.info? elem with
  | none => simp [hq] at hs
  | some i =>
    have hi : i.size = size := by simpa [hq] using hs
    cases sp with
    | none => cases dp <;> simp [Builtin.copy_, run_underlying hu, Builtin.lenOf, Builtin.firstCells, Go.sizeOf, typeInfo, hq, hn, storeCells]
    | some a =>
      have hl := run_loadCells_list (P := P) w a [] (by simp)
      simp at hl
      cases dp <;> simp [Builtin.copy_, run_underlying hu, Builtin.lenOf, Builtin.firstCells, Go.sizeOf, typeInfo, hq, hn, hl, storeCells]

/-- copy, where its run is known. -/
theorem wp_copy_run (w : World) {o : Oper} {a : Act} {K : Act → World → Prop} {Q : Exit → Act → World → Prop} (d s : Operand) (t t' : TypeId)
    (ho : o.op = .call { callee := .builtin .copy, args := #[d, s], argTypes := #[t, t'] }) (v u : Value) (hd : a.eval d = v) (hs : a.eval s = u) {v' : Value} {w' : World}
    (hr : (Builtin.copy_ #[t, t'] o.type #[v, u]).run P w = .ok v' w') (h : K (a.put o.dst v') w') : o.wp P a w K Q := by
  unfold Oper.wp execOp
  simp only [ho, resolve, invoke, builtin, Sem.run_bind, Sem.run_pure, Result.andThen_ok, List.map_toArray, List.map_cons, List.map_nil, hd, hs, hr]
  exact h
theorem step_copy_run {ops : Array Oper} {o : Oper} {a : Act} {w : World} {K : Act → World → Prop} {Q : Exit → Act → World → Prop} {E : Prop}
    (hg : o.guard = none) (d x : Operand) (dT sT : TypeId) (hop : o.op = Op.call { callee := Callee.builtin Builtin.copy, args := #[d, x], argTypes := #[dT, sT] })
    (v u : Value) (hd : a.eval d = v) (hx : a.eval x = u) {v' : Value} {w' : World} (hr : (Builtin.copy_ #[dT, sT] o.type #[v, u]).run P w = .ok v' w') (hK : K (a.put o.dst v') w') :
    if Region.wanted o (yielded ops a.tmps) = true then Oper.wp P o a w K Q else E := by
  have hw : Region.wanted o (yielded ops a.tmps) = true := by simp [Region.wanted, hg]
  rw [if_pos hw]
  exact wp_copy_run w d x dT sT hop v u hd hx hr hK
theorem wpl_clear_run (w : World) {ops : Array Oper} {rest : List Oper} {o : Oper} {a : Act} {Q : Exit → Act → World → Prop} (hgd : o.guard = none) (x : Operand) (t : TypeId)
    (ho : o.op = .call { callee := .builtin .clear, args := #[x], argTypes := #[t] }) (v : Value) (hd : a.eval x = v) {v' : Value} {w' : World}
    (hr : (Builtin.clear_ #[t] o.type #[v]).run P w = .ok v' w') (h : wpList P ops Q rest (a.put o.dst v') w') : wpList P ops Q (o :: rest) a w :=
  wpList_plain hgd fun _ hK => by
    unfold Oper.wp execOp
    simp only [ho, resolve, invoke, builtin, Sem.run_bind, Sem.run_pure, Result.andThen_ok, List.map_toArray, List.map_cons, List.map_nil, hd, hr]
    exact hK _ _ h
theorem step_append_run {ops : Array Oper} {o : Oper} {a : Act} {w : World} {K : Act → World → Prop} {Q : Exit → Act → World → Prop} {E : Prop}
    (hg : o.guard = none) (d x : Operand) (dT sT : TypeId) (hop : o.op = Op.call { callee := Callee.builtin Builtin.append, args := #[d, x], argTypes := #[dT, sT] })
    (v u : Value) (hd : a.eval d = v) (hx : a.eval x = u) {v' : Value} {w' : World} (hr : (Builtin.append_ #[dT, sT] o.type #[v, u]).run P w = .ok v' w') (hK : K (a.put o.dst v') w') :
    if Region.wanted o (yielded ops a.tmps) = true then Oper.wp P o a w K Q else E := by
  have hw : Region.wanted o (yielded ops a.tmps) = true := by simp [Region.wanted, hg]
  rw [if_pos hw]
  exact Lib.wp_append_run w d x dT sT hop v u hd hx _ _ hr hK
end

/-- A row with elements put in at a place. -/
theorem ins_room {L xs us : List Value} {n i s cap : Nat} (hx : L.take (n * s) = xs) (hL : L.length = cap * s) (hi : i ≤ n) (hr : n + 1 ≤ cap) (hu : us.length = s) :
    (splice (splice L ((i + 1) * s) (xs.drop (i * s))) (i * s) us).take ((n + 1) * s) = xs.take (i * s) ++ us ++ xs.drop (i * s) := by
  have e1 : (i + 1) * s = i * s + s := Nat.succ_mul i s
  have e2 : (n + 1) * s = n * s + s := Nat.succ_mul n s
  have l1 : i * s ≤ n * s := Nat.mul_le_mul_right s hi
  have l2 : (n + 1) * s ≤ cap * s := Nat.mul_le_mul_right s hr
  have hxl : xs.length = n * s := by rw [← hx, List.length_take]; omega
  have hti : L.take (i * s) = xs.take (i * s) := by rw [← hx, List.take_take, Nat.min_eq_left l1]
  unfold splice
  have a1 : (L.take ((i + 1) * s) ++ (xs.drop (i * s) ++ L.drop ((i + 1) * s + (xs.drop (i * s)).length))).take (i * s) = xs.take (i * s) := by
    rw [List.take_append_of_le_length (by rw [List.length_take]; omega), List.take_take, Nat.min_eq_left (by omega), hti]
  have a2 : (L.take ((i + 1) * s) ++ (xs.drop (i * s) ++ L.drop ((i + 1) * s + (xs.drop (i * s)).length))).drop (i * s + us.length) = xs.drop (i * s) ++ L.drop ((i + 1) * s + (xs.drop (i * s)).length) := by
    rw [List.drop_append_of_le_length (by rw [List.length_take]; omega), List.drop_eq_nil_of_le (by rw [List.length_take]; omega), List.nil_append]
  rw [a1, a2, ← List.append_assoc, ← List.append_assoc]
  rw [List.take_append_of_le_length (by simp; omega), List.take_of_length_le (by simp; omega)]
theorem del_room {L xs z : List Value} {n i s : Nat} (hx : L.take ((n + 1) * s) = xs) (hL : (n + 1) * s ≤ L.length) (hi : i ≤ n) :
    (splice (splice L (i * s) (xs.drop ((i + 1) * s))) (n * s) z).take (n * s) = xs.take (i * s) ++ xs.drop ((i + 1) * s) := by
  have e1 : (i + 1) * s = i * s + s := Nat.succ_mul i s
  have e2 : (n + 1) * s = n * s + s := Nat.succ_mul n s
  have l1 : i * s ≤ n * s := Nat.mul_le_mul_right s hi
  have hxl : xs.length = (n + 1) * s := by rw [← hx, List.length_take]; omega
  have hti : L.take (i * s) = xs.take (i * s) := by rw [← hx, List.take_take, Nat.min_eq_left (by omega)]
  have hl : (xs.take (i * s) ++ xs.drop ((i + 1) * s)).length = n * s := by rw [List.length_append, List.length_take, List.length_drop]; omega
  have hsp : splice L (i * s) (xs.drop ((i + 1) * s)) = (xs.take (i * s) ++ xs.drop ((i + 1) * s)) ++ L.drop (i * s + (xs.drop ((i + 1) * s)).length) := by
    unfold splice; rw [hti, List.append_assoc]
  have hlen : (splice L (i * s) (xs.drop ((i + 1) * s))).take (n * s) = xs.take (i * s) ++ xs.drop ((i + 1) * s) := by
    rw [hsp, List.take_append_of_le_length (by omega), List.take_of_length_le (by omega)]
  have hge : n * s ≤ (splice L (i * s) (xs.drop ((i + 1) * s))).length := by rw [hsp, List.length_append]; omega
  generalize splice L (i * s) (xs.drop ((i + 1) * s)) = S at hlen hge ⊢
  unfold splice
  rw [List.take_append_of_le_length (by rw [List.length_take]; omega), List.take_take, Nat.min_self, hlen]
theorem ins_grow {xs us z1 z2 : List Value} {n i s : Nat} (hxl : xs.length = n * s) (hi : i ≤ n) (hu : us.length = s) :
    (splice (splice (xs.take (i * s) ++ z1 ++ z2) (i * s) us) ((i + 1) * s) (xs.drop (i * s))).take ((n + 1) * s) = xs.take (i * s) ++ us ++ xs.drop (i * s) := by
  have e1 : (i + 1) * s = i * s + s := Nat.succ_mul i s
  have e2 : (n + 1) * s = n * s + s := Nat.succ_mul n s
  have l1 : i * s ≤ n * s := Nat.mul_le_mul_right s hi
  have ht : (xs.take (i * s)).length = i * s := by rw [List.length_take]; omega
  have a1 : splice (xs.take (i * s) ++ z1 ++ z2) (i * s) us = xs.take (i * s) ++ us ++ (z1 ++ z2).drop us.length := by
    unfold splice
    rw [List.append_assoc, List.take_append_of_le_length (by omega), List.take_of_length_le (by omega), List.drop_append, ht, List.drop_eq_nil_of_le (by omega), List.nil_append, ← List.append_assoc]
    congr 2
    omega
  rw [a1]
  unfold splice
  have b1 : (xs.take (i * s) ++ us ++ (z1 ++ z2).drop us.length).take ((i + 1) * s) = xs.take (i * s) ++ us := by
    rw [List.take_append_of_le_length (by rw [List.length_append, ht, hu]; omega), List.take_of_length_le (by rw [List.length_append, ht, hu]; omega)]
  rw [b1, ← List.append_assoc]
  have hl : (xs.take (i * s) ++ us ++ xs.drop (i * s)).length = (n + 1) * s := by
    rw [List.length_append, List.length_append, ht, List.length_drop]; omega
  rw [List.take_append_of_le_length (by omega), List.take_of_length_le (by omega)]
end Pantry
