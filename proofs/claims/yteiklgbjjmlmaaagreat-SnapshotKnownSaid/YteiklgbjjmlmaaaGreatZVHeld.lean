
/- Values in memory; their kinds. -/
import Derived.Test.YteiklgbjjmlmaaaGreatZEach1
import Derived.Test.YteiklgbjjmlmaaaGreatZRkRange
import Derived.Test.YteiklgbjjmlmaaaGreatZSortRow
import Derived.Test.YteiklgbjjmlmaaaGreatZFlkMem
import Derived.Test.YteiklgbjjmlmaaaGreatZIter
import Derived.Maps.OwnOps
import Derived.Maps.Views
import Derived.WalkKit
import Derived.Test.YteiklgbjjmlmaaaGreatProg
import Derived.Test.YteiklgbjjmlmaaaGreatZMem
import Derived.Test.YteiklgbjjmlmaaaGreatZRkPlace
import Derived.Lib.MinMax
set_option linter.unusedVariables false
set_option linter.unusedSimpArgs false
namespace Pantry
open Go Go.RowKit
/-- Plain data. -/
structure PD where
  kind : Int
  text : List UInt8
  items : List (List UInt8)
  pairs : List Fld
  ranks : List Mb
def emptyP (p : PD) : Bool := decide (p.kind ≠ 1 ∧ p.items.length + p.pairs.length + p.ranks.length = 0)
end Pantry
namespace Go.Proofs.YteiklgbjjmlmaaaGreat
open Go.RowKit Pantry

/-- Block v is a value that is told as p. -/
inductive ValIs (w : World) (v : Nat) : PD → Prop
  | text (s : List UInt8) (h : w.heap[v]? = some (.cells #[.iface 132 (.string ⟨s.toArray⟩)] 122)) : ValIs w v ⟨1, s, [], [], []⟩
  | list (d : Nat) (x : Value) (gs : List Nat) (cs : List (List Txt)) (h : w.heap[v]? = some (.cells #[.iface 144 (.agg #[.pointer (some ⟨d, 0, none⟩)])] 122)) (hd : DeqAt w d x gs cs) (hg : DGood cs) : ValIs w v ⟨2, [], cs.flatten, [], []⟩
  | record (r seed d : Nat) (D : Dc) (l : List Fld) (h : w.heap[v]? = some (.cells #[.iface 154 (.agg #[.pointer (some ⟨r, 0, none⟩)])] 122)) (hr : DStr.RecAt w r seed d D l) : ValIs w v ⟨3, [], [], sortK l, []⟩
  | flock (r seed d : Nat) (D : Dc) (l : List (List UInt8)) (h : w.heap[v]? = some (.cells #[.iface 163 (.agg #[.pointer (some ⟨r, 0, none⟩)])] 122)) (hr : DUnit.FlkAt w r seed d D l) : ValIs w v ⟨4, [], sortT l, [], []⟩
  | ranks (r : Nat) (S : Nat → Prop) (l : List Mb) (h : w.heap[v]? = some (.cells #[.iface 174 (.agg #[.pointer (some ⟨r, 0, none⟩)])] 122)) (hr : Rk w r S l) : ValIs w v ⟨5, [], [], [], l⟩
theorem ValIs.lt {w : World} {v : Nat} {p : PD} (h : ValIs w v p) : v < w.heap.size := by
  cases h with
  | text s h => exact block_lt h
  | list d x gs cs h hd hg => exact block_lt h
  | record r seed d D l h hr => exact block_lt h
  | flock r seed d D l h hr => exact block_lt h
  | ranks r S l h hr => exact block_lt h
theorem ValIs.below {w w' : World} {v : Nat} {p : PD} (h : ValIs w v p) (hb : Below w.heap.size w w') : ValIs w' v p := by
  have hk : ∀ {o : Obj}, w.heap[v]? = some o → w'.heap[v]? = some o := fun ho => (hb.block v (block_lt ho)).trans ho
  cases h with
  | text s h => exact .text s (hk h)
  | list d x gs cs h hd hg => exact .list d x gs cs (hk h) (hd.chg (Chg.of_below (S := fun _ => False) hb) fun _ _ e => e) hg
  | record r seed d D l h hr => exact .record r seed d D l (hk h) (hr.keep (S := fun _ => False) (Chg.of_below hb) fun _ _ e => e)
  | flock r seed d D l h hr => exact .flock r seed d D l (hk h) (hr.keep (S := fun _ => False) (Chg.of_below hb) fun _ _ e => e)
  | ranks r S l h hr => exact .ranks r S l (hk h) (hr.below hb)
end Go.Proofs.YteiklgbjjmlmaaaGreat


/- Whether a name came before: the closure name of wrong. -/
set_option linter.unusedVariables false
set_option linter.unusedSimpArgs false
namespace Pantry
open Go Go.RowKit Go.Maps
/-- The names that came, as the datum of a map. -/
def setD (l : List (List UInt8)) : DataW Unit := l.foldl (fun D s => D.put (.string s) (.lit (.bool true))) (.map [])
theorem setD_snoc (l : List (List UInt8)) (s : List UInt8) : setD (l ++ [s]) = (setD l).put (.string s) (.lit (.bool true)) := by simp [setD]
theorem setD_map : ∀ l : List (List UInt8), IsMap (setD l) := by
  have h : ∀ (l : List (List UInt8)) (D : DataW Unit), IsMap D → IsMap (l.foldl (fun D s => D.put (.string s) (.lit (.bool true))) D) := by
    intro l
    induction l with
    | nil => intro D h; exact h
    | cons s l ih => intro D h; exact ih _ (h.put _ _)
  exact fun l => h l _ isMap_empty
theorem key_lit (s : List UInt8) : WideAt.IsKeyLit (.string s) := trivial
theorem setD_at (l : List (List UInt8)) (s : List UInt8) : (setD l).atKey (.string s) (.lit (.bool false)) = .lit (.bool (decide (s ∈ l))) := by
  rw [← List.reverse_reverse l]
  generalize l.reverse = m
  induction m with
  | nil => rfl
  | cons x m ih =>
    rw [List.reverse_cons, setD_snoc]
    by_cases h : s = x
    · subst h
      rw [atKey_put_same (setD_map _) (key_lit _)]
      simp
    · rw [atKey_put_other (by simpa using h), ih]
      simp [h]
def dupB (l : List (List UInt8)) : Bool := !decide l.Nodup
theorem dupB_snoc (l : List (List UInt8)) (s : List UInt8) : dupB (l ++ [s]) = (dupB l || decide (s ∈ l)) := by
  have h : (l ++ [s]).Nodup ↔ l.Nodup ∧ s ∉ l := by
    rw [List.nodup_append]
    constructor
    · rintro ⟨h1, -, h3⟩
      exact ⟨h1, fun hm => h3 s hm s (by simp) rfl⟩
    · rintro ⟨h1, h2⟩
      exact ⟨h1, by simp, fun a ha b hb => by simp at hb; subst hb; intro e; subst e; exact h2 ha⟩
  unfold dupB
  by_cases h1 : l.Nodup <;> by_cases h2 : s ∈ l <;> simp [h, h1, h2]
end Pantry
namespace Go.Proofs.YteiklgbjjmlmaaaGreat
open Go.RowKit Go.Maps Pantry

theorem Tryz.seenT : Tryz.prog.underlying 130 = some (.map 9 4) := by kernel_rfl
theorem Tryz.strT : Tryz.prog.underlying 9 = some .string := by kernel_rfl
theorem Tryz.boolT : Tryz.prog.underlying 4 = some .bool := by kernel_rfl
theorem zeroBool (w : World) : (zeroValue 4).run Tryz.prog w = .ok (.bool false) w := by kernel_rfl
/-- The names that came, in memory. -/
def Seen (w : World) (m : Nat) (l : List (List UInt8)) : Prop := w.ownsMap Tryz.prog 9 (plainElem Tryz.prog 4) m l.length (setD l)
theorem Seen.made (w : World) : Seen (w.alloc (.map #[] 0)) w.heap.size [] := World.ownsMap_made _ _ _ _
theorem Seen.keep {w w' : World} {m : Nat} {l : List (List UInt8)} (h : Seen w m l) {S : Nat → Prop} (hc : Chg S w w') (hS : ¬ S m) : Seen w' m l := by
  have hlt := World.ownsMap.lt h
  obtain ⟨es, clock, hb, F, hs, hD⟩ := h
  exact ⟨es, clock, (hc.block m hlt hS).trans hb, F, hs, hD⟩
theorem keyOf_str (s : List UInt8) (hs : s.length ≤ maxLen) : keyOf Tryz.prog 9 (.string ⟨s.toArray⟩) = some (.string s) := by
  have := Go.WideMaps.keyOf_string_mk (P := Tryz.prog) Tryz.strT (s := ⟨s.toArray⟩) (by show s.toArray.size ≤ maxLen; simpa using hs)
  simpa using this
theorem Seen.look {w : World} {m : Nat} {l : List (List UInt8)} (h : Seen w m l) (s : List UInt8) (hs : s.length ≤ maxLen) : (Instr.lookup 130 (.map (some m)) (.string ⟨s.toArray⟩) false).run Tryz.prog w = .ok (.bool (decide (s ∈ l))) w := by
  have hkey := keyOf_str s hs
  obtain ⟨v, ps, hrun, hv⟩ := World.ownsMap.lookup h (string_keyed Tryz.strT) Tryz.seenT (zeroBool w) (plainElem_bool Tryz.boolT false) hkey
  rw [setD_at] at hv
  rw [hrun]
  cases v <;> simp [plainElem, Tryz.boolT] at hv ⊢
  exact hv.1

/-- The state of the two boxes that the closure name captures. -/
structure Names (w : World) (bt bm m : Nat) (tw : Bool) (l : List (List UInt8)) : Prop where
  tw : w.heap[bt]? = some (.cells #[.bool tw] 4)
  mp : w.heap[bm]? = some (.cells #[.map (some m)] 130)
  own : Seen w m l
theorem Names.ne {w : World} {bt bm m : Nat} {tw : Bool} {l : List (List UInt8)} (h : Names w bt bm m tw l) : bt ≠ m ∧ bt ≠ bm ∧ bm ≠ m := by
  obtain ⟨es, clock, hb, -⟩ := h.own
  refine ⟨fun e => ?_, fun e => ?_, fun e => ?_⟩
  · have := h.tw; rw [e, hb] at this; cases this
  · have := h.tw; rw [e, h.mp] at this; cases this
  · have := h.mp; rw [e, hb] at this; cases this
theorem Names.keep {w w' : World} {bt bm m : Nat} {tw : Bool} {l : List (List UInt8)} (h : Names w bt bm m tw l) {S : Nat → Prop} (hc : Chg S w w') (h1 : ¬ S bt) (h2 : ¬ S bm) (h3 : ¬ S m) : Names w' bt bm m tw l :=
  ⟨hc.heap h.tw h1, hc.heap h.mp h2, h.own.keep hc h3⟩
def NamePost (bt bm m : Nat) (tw : Bool) (l : List (List UInt8)) (w : World) (e : Ending) (w' : World) : Prop :=
  e = .returned (.tuple #[]) ∧ Names w' bt bm m tw l ∧ Chg (fun k => k = bt ∨ k = m) w w'
set_option maxRecDepth 100000 in
set_option maxHeartbeats 1000000 in
theorem name_any (w : World) (s : List UInt8) (bt bm m : Nat) (tw : Bool) (l : List (List UInt8)) (h : Names w bt bm m tw l) (hs : s.length ≤ maxLen) (hl : l.length < maxLen) :
    Calls Tryz.prog 78 #[.string ⟨s.toArray⟩, .pointer (some ⟨bt, 0, none⟩), .pointer (some ⟨bm, 0, none⟩)] w (NamePost bt bm m (tw || decide (s ∈ l)) (l ++ [s]) w) := by
  obtain ⟨n1, n2, n3⟩ := h.ne
  have hlook := h.own.look s hs
  have c0 : w.cell? ⟨bt, 0, none⟩ = some (.bool tw) := cell_of_row w bt 0 _ _ _ h.tw
  have c1 : w.cell? ⟨bm, 0, none⟩ = some (.map (some m)) := cell_of_row w bm 0 _ _ _ h.mp
  have f0 : w.frozen? ⟨bt, 0, none⟩ = false := frozen_of_row w bt 0 _ _ h.tw
  obtain ⟨t, ht⟩ : ∃ t, decide (s ∈ l) = t := ⟨_, rfl⟩
  rw [ht] at hlook ⊢
  have hC1 : Chg (fun k => k = bt) w (w.setCell ⟨bt, 0, none⟩ (.bool (tw || t))) := Chg.setCell (S := fun k => k = bt) (Chg.refl _ w) (p := ⟨bt, 0, none⟩) (fun _ => rfl) _
  have hN1 : Names (w.setCell ⟨bt, 0, none⟩ (.bool (tw || t))) bt bm m (tw || t) l :=
    ⟨one_setCell h.tw, hC1.heap h.mp (fun e => n2 e.symm), h.own.keep hC1 (fun e => n1 e.symm)⟩
  have hc2 : (w.setCell ⟨bt, 0, none⟩ (.bool (tw || t))).cell? ⟨bm, 0, none⟩ = some (.map (some m)) := cell_of_row _ bm 0 _ _ _ hN1.mp
  obtain ⟨w2, hrun, hown2, hg2⟩ := World.ownsMap.update hN1.own (string_keyed Tryz.strT) Tryz.seenT hl (keyOf_str s hs) (plainElem_bool Tryz.boolT true)
  have hC2 : Chg (fun k => k = m) _ w2 := Chg.of_grown hg2 (fun k e => by cases e; rfl)
  have HP : Hid (NamePost bt bm m (tw || t) (l ++ [s]) w (.returned (.tuple #[])) w2) := Lib.hid ⟨rfl, ⟨hC2.heap hN1.tw n1, hC2.heap hN1.mp n3, by unfold Seen; rw [setD_snoc]; simpa using hown2⟩, (hC1.mono fun k _ e => .inl e).trans (hC2.mono fun k _ e => .inr e) fun k _ e => e⟩
  clear hC1 hN1 hown2 hg2 hC2 h
  cases tw
  all_goals
    simp only [Bool.false_or, Bool.true_or] at hrun hc2 HP
    go_enter Tryz.func78, Tryz.ntmps78
    go_wp2_with fail
    go_end0
    exact HP.out
end Go.Proofs.YteiklgbjjmlmaaaGreat


/- Whether a part of plain data belongs to its kind: the closure belongs of wrong. -/
set_option linter.unusedVariables false
set_option linter.unusedSimpArgs false
namespace Go.Proofs.YteiklgbjjmlmaaaGreat
open Go.RowKit Pantry

set_option maxHeartbeats 1000000 in
theorem bel1_any (w : World) (n : Nat) (g b : Nat) (a kd : Int) (cap : Nat) (hg : w.cell? ⟨g, 0, none⟩ = some (.int .i64 a)) (hb : w.cell? ⟨b, 0, none⟩ = some (.int .i64 kd)) :
    Calls Tryz.prog 77 #[.int .i64 n, .slice (some ⟨g, 0, none⟩) 1 cap, .pointer (some ⟨b, 0, none⟩)] w (QPost w (.bool (decide (a = kd) || decide (n = 0)))) := by
  have hm0 : ((n : Int) == 0) = decide (n = 0) := by
    by_cases h : n = 0
    · subst h; rfl
    · simp [h]
  obtain ⟨m, hm⟩ : ∃ m, decide (n = 0) = m := ⟨_, rfl⟩
  rw [hm] at hm0 ⊢
  by_cases ha : a = kd
  · subst ha
    go_enter Tryz.func77, Tryz.ntmps77
    go_wp2_with fail
    refine wp_loop_rounds 2 ?_
    rw [rounds_succ]
    go_wp2_with fail
    go_ret
    exact ⟨by simp, Below.refl _ _⟩
  · have ha' : decide (a = kd) = false := decide_eq_false ha
    go_enter Tryz.func77, Tryz.ntmps77
    go_wp2_with fail
    refine wp_loop_rounds 2 ?_
    rw [rounds_succ]
    go_wp2_with fail
    rw [rounds_succ]
    go_wp2_with fail
    go_ret
    exact ⟨by simp [ha], Below.refl _ _⟩
set_option maxHeartbeats 1000000 in
theorem bel2_any (w : World) (n : Nat) (g b : Nat) (a a2 kd : Int) (cap : Nat) (hg : w.cell? ⟨g, 0, none⟩ = some (.int .i64 a)) (hg2 : w.cell? ⟨g, 1, none⟩ = some (.int .i64 a2)) (hb : w.cell? ⟨b, 0, none⟩ = some (.int .i64 kd)) :
    Calls Tryz.prog 77 #[.int .i64 n, .slice (some ⟨g, 0, none⟩) 2 cap, .pointer (some ⟨b, 0, none⟩)] w (QPost w (.bool (decide (a = kd) || decide (a2 = kd) || decide (n = 0)))) := by
  have hm0 : ((n : Int) == 0) = decide (n = 0) := by
    by_cases h : n = 0
    · subst h; rfl
    · simp [h]
  obtain ⟨m, hm⟩ : ∃ m, decide (n = 0) = m := ⟨_, rfl⟩
  rw [hm] at hm0 ⊢
  by_cases ha : a = kd
  · subst ha
    go_enter Tryz.func77, Tryz.ntmps77
    go_wp2_with fail
    refine wp_loop_rounds 3 ?_
    rw [rounds_succ]
    go_wp2_with fail
    go_ret
    exact ⟨by simp, Below.refl _ _⟩
  · have ha' : decide (a = kd) = false := decide_eq_false ha
    by_cases ha2 : a2 = kd
    · subst ha2
      go_enter Tryz.func77, Tryz.ntmps77
      go_wp2_with fail
      refine wp_loop_rounds 3 ?_
      rw [rounds_succ]
      go_wp2_with fail
      rw [rounds_succ]
      go_wp2_with fail
      go_ret
      exact ⟨by simp, Below.refl _ _⟩
    · have ha2' : decide (a2 = kd) = false := decide_eq_false ha2
      go_enter Tryz.func77, Tryz.ntmps77
      go_wp2_with fail
      refine wp_loop_rounds 3 ?_
      rw [rounds_succ]
      go_wp2_with fail
      rw [rounds_succ]
      go_wp2_with fail
      rw [rounds_succ]
      go_wp2_with fail
      go_ret
      exact ⟨by simp [ha, ha2], Below.refl _ _⟩
end Go.Proofs.YteiklgbjjmlmaaaGreat


/- Why plain data makes no value: as a plain law; plain data as an argument; the first part of the code. -/
set_option linter.unusedVariables false
set_option linter.unusedSimpArgs false
namespace Pantry
open Go Go.RowKit
@[go_sem high] theorem run_max_three {P : Program} (w : World) (ts : Array TypeId) (t : TypeId) (k k' k'' : IntKind) (x y z : Int) :
    (Builtin.max_ ts t #[.int k x, .int k' y, .int k'' z]).run P w = .ok (.int k (max x (max y z))) w := by
  have e : ∀ a b : Int, (if b > a then b else a) = max a b := by
    intro a b
    rw [Int.max_def]
    split <;> split <;> omega
  simp [Builtin.max_, Builtin.max2, e, Int.max_assoc]
def longT (m : Int) (l : List (List UInt8)) : Int := l.foldl (fun m s => max m (s.length : Int)) m
def longF (m : Int) (l : List Fld) : Int := l.foldl (fun m x => max m (max (x.1.length : Int) (x.2.length : Int))) m
def longM (m : Int) (l : List Mb) : Int := l.foldl (fun m x => max m (x.1.length : Int)) m
/-- The longest text. -/
def longP (p : PD) : Int := longM (longF (longT p.text.length p.items) p.pairs) p.ranks
def namesT (p : PD) (k : Nat) : List (List UInt8) := if p.kind = 4 then p.items.take k else []
def namesP (p : PD) : List (List UInt8) := namesT p p.items.length ++ p.pairs.map (·.1) ++ p.ranks.map (·.1)
def nanB (l : List Mb) : Bool := l.any fun x => decide (fnan x.2)
def twiceP (p : PD) : Bool := dupB (namesP p) || nanB p.ranks
def belT (p : PD) : Bool := decide ((1 : Int) = p.kind) || decide (p.text.length = 0)
def belI (p : PD) : Bool := decide ((2 : Int) = p.kind) || decide ((4 : Int) = p.kind) || decide (p.items.length = 0)
def belF (p : PD) : Bool := decide ((3 : Int) = p.kind) || decide (p.pairs.length = 0)
def belR (p : PD) : Bool := decide ((5 : Int) = p.kind) || decide (p.ranks.length = 0)
def mostP (p : PD) : Int := max (p.items.length : Int) (max (p.pairs.length : Int) (p.ranks.length : Int))
/-- Why plain data makes no value. -/
def wrongP (p : PD) : Int :=
  if p.kind < 1 ∨ 5 < p.kind ∨ belT p = false ∨ belI p = false ∨ belF p = false ∨ belR p = false then 3
  else if twiceP p then 3 else if 1048576 < longP p then 2 else if 1048576 < mostP p then 4 else 0
theorem cell_new (w : World) (cs : Array Value) (t : TypeId) (j : Nat) : (w.alloc (.cells cs t)).cell? ⟨w.heap.size, j, none⟩ = cs[j]? := cell_of_row _ _ j _ _ _ (heap_alloc_new w _)
end Pantry
namespace Go.Proofs.YteiklgbjjmlmaaaGreat
open Go.RowKit Pantry

def Tryz.plainCells (p : PD) (a1 a2 a3 : Option Addr) (c1 c2 c3 : Nat) : Array Value :=
  #[.int .i64 p.kind, .string ⟨p.text.toArray⟩, .slice a1 p.items.length c1, .slice a2 p.pairs.length c2, .slice a3 p.ranks.length c3]
/-- Value x is plain data. -/
structure PlainAt (w : World) (p : PD) (a1 a2 a3 : Option Addr) : Prop where
  items : Rd w a1 (p.items.map txC)
  pairs : Rd w a2 (fdCells p.pairs)
  ranks : Rd w a3 (rkCells p.ranks)
structure PlainBig (p : PD) : Prop where
  text : p.text.length < 281474976710656
  items : p.items.length < 281474976710656
  pairs : p.pairs.length < 281474976710656
  ranks : p.ranks.length < 281474976710656
  texts : ∀ s ∈ p.items, s.length < 281474976710656
  names : ∀ x ∈ p.pairs, x.1.length < 281474976710656
  vals : ∀ x ∈ p.pairs, x.2.length < 281474976710656
  mems : ∀ x ∈ p.ranks, x.1.length < 281474976710656

set_option maxHeartbeats 4000000 in
theorem wrong_kind (w : World) (p : PD) (a1 a2 a3 : Option Addr) (c1 c2 c3 : Nat) (hk : p.kind < 1 ∨ 5 < p.kind) :
    Calls Tryz.prog 59 #[.agg (Tryz.plainCells p a1 a2 a3 c1 c2 c3)] w (QPost w (.int .i64 3)) := by
  unfold Tryz.plainCells
  generalize p.kind = kd at *
  by_cases h1 : kd < 1
  · go_enter Tryz.func59, Tryz.ntmps59
    go_wp2_with fail
    go_ret
    exact ⟨rfl, (Below.refl _ w).alloc (Nat.le_refl _) _⟩
  · have h2 : 5 < kd := by omega
    go_enter Tryz.func59, Tryz.ntmps59
    go_wp2_with fail
    go_ret
    exact ⟨rfl, (Below.refl _ w).alloc (Nat.le_refl _) _⟩
/-- What is laid behind plain data's box. -/
def OnBox (w : World) (p : PD) (a1 a2 a3 : Option Addr) (c1 c2 c3 : Nat) (W : World) : Prop :=
  w.heap.size + 1 ≤ W.heap.size ∧ Below w.heap.size w W ∧ W.heap[w.heap.size]? = some (.cells (Tryz.plainCells p a1 a2 a3 c1 c2 c3) 49)
theorem OnBox.start (w : World) (p : PD) (a1 a2 a3 : Option Addr) (c1 c2 c3 : Nat) : OnBox w p a1 a2 a3 c1 c2 c3 (w.alloc (.cells (Tryz.plainCells p a1 a2 a3 c1 c2 c3) 49)) :=
  ⟨by simp, (Below.refl _ w).alloc (Nat.le_refl _) _, heap_alloc_new w _⟩
theorem OnBox.to {w : World} {p : PD} {a1 a2 a3 : Option Addr} {c1 c2 c3 : Nat} {W W' : World} (h : OnBox w p a1 a2 a3 c1 c2 c3 W) (hb : Below W.heap.size W W') : OnBox w p a1 a2 a3 c1 c2 c3 W' :=
  ⟨Nat.le_trans h.1 hb.size, h.2.1.trans (hb.mono h.2.1.size), (hb.block _ (by have := h.1; omega)).trans h.2.2⟩
theorem OnBox.kind {w : World} {p : PD} {a1 a2 a3 : Option Addr} {c1 c2 c3 : Nat} {W : World} (h : OnBox w p a1 a2 a3 c1 c2 c3 W) : W.cell? ⟨w.heap.size, 0, none⟩ = some (.int .i64 p.kind) := cell_of_row _ _ 0 _ _ _ h.2.2
theorem OnBox.call1 {w : World} {p : PD} {a1 a2 a3 : Option Addr} {c1 c2 c3 : Nat} {W : World} (h : OnBox w p a1 a2 a3 c1 c2 c3 W) (a : Int) (n g : Nat) (hg : g = W.heap.size) :
    Calls Tryz.prog 77 #[.int .i64 n, .slice (some ⟨g, 0, none⟩) 1 1, .pointer (some ⟨w.heap.size, 0, none⟩)] (W.alloc (.cells #[.int .i64 a] 3)) fun e w' => e = .returned (.bool (decide (a = p.kind) || decide (n = 0))) ∧ OnBox w p a1 a2 a3 c1 c2 c3 w' := by
  subst hg
  have h1 : Below W.heap.size W (W.alloc (.cells #[.int .i64 a] 3)) := (Below.refl _ W).alloc (Nat.le_refl _) _
  refine (bel1_any _ n W.heap.size w.heap.size a p.kind 1 (cell_new _ _ _ 0) (h.to h1).kind).mono ?_
  rintro e w2 ⟨rfl, hb⟩
  exact ⟨rfl, h.to (h1.trans (hb.mono h1.size))⟩
theorem OnBox.call2 {w : World} {p : PD} {a1 a2 a3 : Option Addr} {c1 c2 c3 : Nat} {W : World} (h : OnBox w p a1 a2 a3 c1 c2 c3 W) (a a' : Int) (n g : Nat) (hg : g = W.heap.size) :
    Calls Tryz.prog 77 #[.int .i64 n, .slice (some ⟨g, 0, none⟩) 2 2, .pointer (some ⟨w.heap.size, 0, none⟩)] (W.alloc (.cells #[.int .i64 a, .int .i64 a'] 3)) fun e w' => e = .returned (.bool (decide (a = p.kind) || decide (a' = p.kind) || decide (n = 0))) ∧ OnBox w p a1 a2 a3 c1 c2 c3 w' := by
  subst hg
  have h1 : Below W.heap.size W (W.alloc (.cells #[.int .i64 a, .int .i64 a'] 3)) := (Below.refl _ W).alloc (Nat.le_refl _) _
  refine (bel2_any _ n W.heap.size w.heap.size a a' p.kind 2 (cell_new _ _ _ 0) (cell_new _ _ _ 1) (h.to h1).kind).mono ?_
  rintro e w2 ⟨rfl, hb⟩
  exact ⟨rfl, h.to (h1.trans (hb.mono h1.size))⟩
theorem OnBox.fields {w : World} {p : PD} {a1 a2 a3 : Option Addr} {c1 c2 c3 : Nat} {W : World} (h : OnBox w p a1 a2 a3 c1 c2 c3 W) :
    W.cell? ⟨w.heap.size, 1, none⟩ = some (.string ⟨p.text.toArray⟩) ∧ W.cell? ⟨w.heap.size, 2, none⟩ = some (.slice a1 p.items.length c1) ∧
    W.cell? ⟨w.heap.size, 3, none⟩ = some (.slice a2 p.pairs.length c2) ∧ W.cell? ⟨w.heap.size, 4, none⟩ = some (.slice a3 p.ranks.length c3) :=
  ⟨cell_of_row _ _ 1 _ _ _ h.2.2, cell_of_row _ _ 2 _ _ _ h.2.2, cell_of_row _ _ 3 _ _ _ h.2.2, cell_of_row _ _ 4 _ _ _ h.2.2⟩

theorem OnBox.callT {w : World} {p : PD} {a1 a2 a3 : Option Addr} {c1 c2 c3 : Nat} {W : World} (h : OnBox w p a1 a2 a3 c1 c2 c3 W) {u : Bool} (hu : belT p = u) {g : Nat} (hg : g = W.heap.size) :
    Calls Tryz.prog 77 #[.int .i64 p.text.length, .slice (some ⟨g, 0, none⟩) 1 1, .pointer (some ⟨w.heap.size, 0, none⟩)] (W.alloc (.cells #[.int .i64 1] 3)) fun e w' => e = .returned (.bool u) ∧ OnBox w p a1 a2 a3 c1 c2 c3 w' := by
  subst hu
  exact h.call1 1 p.text.length g hg
theorem OnBox.callI {w : World} {p : PD} {a1 a2 a3 : Option Addr} {c1 c2 c3 : Nat} {W : World} (h : OnBox w p a1 a2 a3 c1 c2 c3 W) {u : Bool} (hu : belI p = u) {g : Nat} (hg : g = W.heap.size) :
    Calls Tryz.prog 77 #[.int .i64 p.items.length, .slice (some ⟨g, 0, none⟩) 2 2, .pointer (some ⟨w.heap.size, 0, none⟩)] (W.alloc (.cells #[.int .i64 2, .int .i64 4] 3)) fun e w' => e = .returned (.bool u) ∧ OnBox w p a1 a2 a3 c1 c2 c3 w' := by
  subst hu
  exact h.call2 2 4 p.items.length g hg
theorem OnBox.callF {w : World} {p : PD} {a1 a2 a3 : Option Addr} {c1 c2 c3 : Nat} {W : World} (h : OnBox w p a1 a2 a3 c1 c2 c3 W) {u : Bool} (hu : belF p = u) {g : Nat} (hg : g = W.heap.size) :
    Calls Tryz.prog 77 #[.int .i64 p.pairs.length, .slice (some ⟨g, 0, none⟩) 1 1, .pointer (some ⟨w.heap.size, 0, none⟩)] (W.alloc (.cells #[.int .i64 3] 3)) fun e w' => e = .returned (.bool u) ∧ OnBox w p a1 a2 a3 c1 c2 c3 w' := by
  subst hu
  exact h.call1 3 p.pairs.length g hg
theorem OnBox.callR {w : World} {p : PD} {a1 a2 a3 : Option Addr} {c1 c2 c3 : Nat} {W : World} (h : OnBox w p a1 a2 a3 c1 c2 c3 W) {u : Bool} (hu : belR p = u) {g : Nat} (hg : g = W.heap.size) :
    Calls Tryz.prog 77 #[.int .i64 p.ranks.length, .slice (some ⟨g, 0, none⟩) 1 1, .pointer (some ⟨w.heap.size, 0, none⟩)] (W.alloc (.cells #[.int .i64 5] 3)) fun e w' => e = .returned (.bool u) ∧ OnBox w p a1 a2 a3 c1 c2 c3 w' := by
  subst hu
  exact h.call1 5 p.ranks.length g hg

set_option maxHeartbeats 8000000 in
theorem wrong_part (w : World) (p : PD) (a1 a2 a3 : Option Addr) (c1 c2 c3 : Nat) (h1 : ¬ p.kind < 1) (h5 : ¬ 5 < p.kind)
    (hb : belT p = false ∨ belI p = false ∨ belF p = false ∨ belR p = false) :
    Calls Tryz.prog 59 #[.agg (Tryz.plainCells p a1 a2 a3 c1 c2 c3)] w (QPost w (.int .i64 3)) := by
  obtain ⟨W0, hW0⟩ : ∃ W, w.alloc (.cells (Tryz.plainCells p a1 a2 a3 c1 c2 c3) 49) = W := ⟨_, rfl⟩
  have H0 := Lib.hid (OnBox.start w p a1 a2 a3 c1 c2 c3)
  rw [hW0] at H0
  have hs0 : W0.heap.size = w.heap.size + 1 := by rw [← hW0]; simp
  have hk0 := H0.out.kind
  obtain ⟨f1, f2, f3, f4⟩ := H0.out.fields
  obtain ⟨u1, hu1⟩ : ∃ u, belT p = u := ⟨_, rfl⟩
  obtain ⟨u2, hu2⟩ : ∃ u, belI p = u := ⟨_, rfl⟩
  obtain ⟨u3, hu3⟩ : ∃ u, belF p = u := ⟨_, rfl⟩
  obtain ⟨u4, hu4⟩ : ∃ u, belR p = u := ⟨_, rfl⟩
  rw [hu1, hu2, hu3, hu4] at hb
  replace hu1 := Lib.hid hu1
  replace hu2 := Lib.hid hu2
  replace hu3 := Lib.hid hu3
  replace hu4 := Lib.hid hu4
  have HT := Lib.hid (OnBox.callT H0.out hu1.out hs0.symm)
  unfold Tryz.plainCells at hW0 ⊢
  have key : ∀ u1 u2 u3 u4 : Bool, (u1 = false ∨ u2 = false ∨ u3 = false ∨ u4 = false) → (u1 = false) ∨ (u1 = true ∧ u2 = false) ∨ (u1 = true ∧ u2 = true ∧ u3 = false) ∨ (u1 = true ∧ u2 = true ∧ u3 = true ∧ u4 = false) := by decide
  rcases key u1 u2 u3 u4 hb with rfl | ⟨rfl, rfl⟩ | ⟨rfl, rfl, rfl⟩ | ⟨rfl, rfl, rfl, rfl⟩
  all_goals
    clear hb key
    go_enter Tryz.func59, Tryz.ntmps59
    go_wp2_with (first
      | (go_at_call 77
         refine HT.out.mono ?_
         rintro e w2 ⟨rfl, H2⟩
         obtain ⟨f12, f22, f32, f42⟩ := H2.fields
         have H2' := Lib.hid H2
         clear H2 HT)
      | (go_at_call 77
         refine (H2'.out.callI hu2.out rfl).mono ?_
         rintro e w3 ⟨rfl, H3⟩
         obtain ⟨f13, f23, f33, f43⟩ := H3.fields
         have H3' := Lib.hid H3
         clear H3 hu2)
      | (go_at_call 77
         refine (H3'.out.callF hu3.out rfl).mono ?_
         rintro e w4 ⟨rfl, H4⟩
         obtain ⟨f14, f24, f34, f44⟩ := H4.fields
         have H4' := Lib.hid H4
         clear H4 hu3)
      | (go_at_call 77
         refine (H4'.out.callR hu4.out rfl).mono ?_
         rintro e w5 ⟨rfl, H5⟩
         have H5' := Lib.hid H5
         clear H5 hu4))
    go_ret
    refine ⟨rfl, ?_⟩
    first | exact H5'.out.2.1 | exact H4'.out.2.1 | exact H3'.out.2.1 | exact H2'.out.2.1
end Go.Proofs.YteiklgbjjmlmaaaGreat
