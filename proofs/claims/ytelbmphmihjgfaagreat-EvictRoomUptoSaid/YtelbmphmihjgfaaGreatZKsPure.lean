/- A keyspace as plain data: what its calls do. -/
import Derived.Test.YtelbmphmihjgfaaGreatZDHash
set_option linter.unusedVariables false
set_option linter.unusedSimpArgs false
namespace Pantry
open Go Go.RowKit
/-- What is stored under a key: the entry's block, the value's block, what the value costs, when it was used last, its deadline (0: none). -/
structure KE where
  key : List UInt8
  b : Nat
  v : Nat
  cost : Nat
  stamp : Nat
  dl : Nat
def KE.costs (e : KE) : Nat := 48 + e.key.length + e.cost + if 0 < e.dl then 16 else 0
def KE.past (e : KE) (now : Nat) : Bool := decide (0 < e.dl) && decide (e.dl ≤ now)
def KE.kv (e : KE) : List UInt8 × Value := (e.key, .pointer (some ⟨e.b, 0, none⟩))
def KE.late (e : KE) : Bool := decide (0 < e.dl)
/-- A space: how it was made, its clock, its uses, what is stored, what was touched, its steps. -/
structure Sp where
  seed : Nat
  most : Int
  policy : Int
  samples : Int
  now : Nat
  uses : Nat
  ents : List KE
  touched : List (List UInt8)
  steps : List (Int × List UInt8)
def usedN (l : List KE) : Nat := (l.map KE.costs).sum
def Sp.find (X : Sp) (key : List UInt8) : Option KE := X.ents.find? fun e => e.key == key
def dropK (l : List KE) (key : List UInt8) : List KE := l.filter fun e => !(e.key == key)
def addT (l : List (List UInt8)) (k : List UInt8) : List (List UInt8) := if k ∈ l then l else k :: l
theorem mem_addT {l : List (List UInt8)} {k x : List UInt8} : x ∈ addT l k ↔ x = k ∨ x ∈ l := by
  unfold addT
  split
  · constructor
    · exact .inr
    · rintro (rfl | h)
      · assumption
      · exact h
  · exact List.mem_cons
def Sp.touch (X : Sp) (key : List UInt8) : Sp := { X with touched := addT X.touched key }
def Sp.goes (X : Sp) (key : List UInt8) : Sp := { X with ents := dropK X.ents key, touched := addT X.touched key }
def Sp.step (X : Sp) (kind : Int) (key : List UInt8) : Sp := { X with steps := X.steps ++ [(kind, key)] }
def Sp.expires (X : Sp) (key : List UInt8) : Sp := (X.goes key).step 1 key
/-- A key's entry, if it is there; a past one goes. -/
def Sp.met (X : Sp) (key : List UInt8) : Option KE × Sp :=
  match X.find key with
  | none => (none, X)
  | some e => if e.past X.now then (none, X.expires key) else (some e, X)
/-- One entry in the place of that of its key. -/
def setK (l : List KE) (e : KE) : List KE := l.map fun x => if x.key = e.key then e else x
def Sp.set (X : Sp) (e : KE) : Sp := { X with ents := setK X.ents e }
def Sp.use (X : Sp) (e : KE) : Sp := { X with ents := setK X.ents { e with stamp := X.uses + 1 }, uses := X.uses + 1 }
/-- How much there is of it: no call adds more than five. -/
def Sp.mass (X : Sp) : Nat := 3 * X.ents.length + X.steps.length + X.touched.length + X.uses
/-- What holds of every space. -/
structure SpGood (X : Sp) : Prop where
  seed : X.seed < 18446744073709551616
  keys : (X.ents.map (·.key)).Nodup
  blocks : (X.ents.map (·.b)).Nodup
  few : X.mass ≤ 8388608
  text : ∀ e ∈ X.ents, e.key.length ≤ 1048576
  cost : ∀ e ∈ X.ents, e.cost ≤ 2199023255552
  dl : ∀ e ∈ X.ents, e.dl ≤ 9007199254740992
  now : X.now ≤ 9007199254740992
  stamp : ∀ e ∈ X.ents, e.stamp ≤ X.uses
  most : 0 ≤ X.most ∧ X.most < 9223372036854775808
  policy : 0 ≤ X.policy ∧ X.policy ≤ 2
  samples : 0 ≤ X.samples ∧ X.samples ≤ 16
  need : X.policy ≠ 0 → X.samples ≠ 0
theorem KE.costs_le {e : KE} (h1 : e.key.length ≤ 1048576) (h2 : e.cost ≤ 2199023255552) : e.costs ≤ 2199024304192 := by
  unfold KE.costs
  split <;> omega
theorem usedN_le {l : List KE} (h1 : ∀ e ∈ l, e.key.length ≤ 1048576) (h2 : ∀ e ∈ l, e.cost ≤ 2199023255552) : usedN l ≤ l.length * 2199024304192 := by
  induction l with
  | nil => simp [usedN]
  | cons e l ih =>
    have h3 := ih (fun q hq => h1 q (List.mem_cons_of_mem _ hq)) (fun q hq => h2 q (List.mem_cons_of_mem _ hq))
    have h4 := KE.costs_le (h1 e List.mem_cons_self) (h2 e List.mem_cons_self)
    simp only [usedN, List.map_cons, List.sum_cons, List.length_cons] at *
    omega
theorem SpGood.ents {X : Sp} (h : SpGood X) : X.ents.length ≤ 2796202 := by
  have h2 := h.few
  unfold Sp.mass at h2
  omega
theorem SpGood.used {X : Sp} (h : SpGood X) : usedN X.ents ≤ 6148916157430278784 := by
  have h1 := usedN_le h.text h.cost
  have h2 := h.ents
  omega
theorem find_some {X : Sp} {key : List UInt8} {e : KE} (h : X.find key = some e) : e ∈ X.ents ∧ e.key = key := by
  have h1 := List.mem_of_find?_eq_some h
  have h2 := List.find?_some h
  exact ⟨h1, by simpa using h2⟩
theorem find_none {X : Sp} {key : List UInt8} (h : X.find key = none) : ∀ e ∈ X.ents, e.key ≠ key := by
  intro e he
  have := List.find?_eq_none.1 h e he
  simpa using this
theorem key_inj : ∀ {l : List KE}, (l.map (·.key)).Nodup → ∀ {a b : KE}, a ∈ l → b ∈ l → a.key = b.key → a = b
  | [], _, _, _, ha, _, _ => by cases ha
  | x :: l, hn, a, b, ha, hb, e => by
    rw [List.map_cons, List.nodup_cons] at hn
    rcases List.mem_cons.1 ha with h1 | h1 <;> rcases List.mem_cons.1 hb with h2 | h2
    · rw [h1, h2]
    · exact absurd (List.mem_map.2 ⟨b, h2, by rw [← e, h1]⟩) hn.1
    · exact absurd (List.mem_map.2 ⟨a, h1, by rw [e, h2]⟩) hn.1
    · exact key_inj hn.2 h1 h2 e
theorem find_of_mem {X : Sp} (h : SpGood X) {e : KE} (he : e ∈ X.ents) : X.find e.key = some e := by
  cases hf : X.find e.key with
  | none => exact absurd rfl (find_none hf e he)
  | some e' =>
    obtain ⟨h1, h2⟩ := find_some hf
    exact congrArg some (key_inj h.keys h1 he h2)
theorem mem_dropK {l : List KE} {key : List UInt8} {e : KE} : e ∈ dropK l key ↔ e ∈ l ∧ e.key ≠ key := by
  simp [dropK]
theorem usedN_drop {l : List KE} (hn : (l.map (·.key)).Nodup) {e : KE} (he : e ∈ l) : usedN l = e.costs + usedN (dropK l e.key) := by
  induction l with
  | nil => cases he
  | cons x l ih =>
    rw [List.map_cons, List.nodup_cons] at hn
    rcases List.mem_cons.1 he with rfl | he
    · have : dropK (e :: l) e.key = l := by
        unfold dropK
        rw [List.filter_cons_of_neg (by simp), List.filter_eq_self]
        intro y hy
        have : y.key ≠ e.key := fun h => hn.1 (List.mem_map.2 ⟨y, hy, h⟩)
        simpa using this
      rw [this]; simp [usedN]
    · have hne : x.key ≠ e.key := fun h => hn.1 (List.mem_map.2 ⟨e, he, h.symm⟩)
      have : dropK (x :: l) e.key = x :: dropK l e.key := by
        unfold dropK
        rw [List.filter_cons_of_pos (by simpa using hne)]
      have h2 := ih hn.2 he
      rw [this]
      simp only [usedN, List.map_cons, List.sum_cons] at *
      omega
theorem setK_keys (l : List KE) (e : KE) : (setK l e).map (·.key) = l.map (·.key) := by
  unfold setK
  rw [List.map_map]
  refine List.map_congr_left fun x _ => ?_
  simp only [Function.comp]
  split
  · rename_i h; exact h.symm
  · rfl
theorem setK_length (l : List KE) (e : KE) : (setK l e).length = l.length := by simp [setK]
theorem mem_setK {l : List KE} {e x : KE} (h : x ∈ setK l e) : x = e ∨ (x ∈ l ∧ x.key ≠ e.key) := by
  unfold setK at h
  obtain ⟨y, hy, rfl⟩ := List.mem_map.1 h
  split
  · exact .inl rfl
  · rename_i hne; exact .inr ⟨hy, hne⟩
theorem setK_mem {l : List KE} {e x : KE} (h : x ∈ l) (hk : x.key = e.key) : e ∈ setK l e := List.mem_map.2 ⟨x, h, by rw [if_pos hk]⟩
theorem setK_none {l : List KE} {e : KE} (h : ∀ x ∈ l, x.key ≠ e.key) : setK l e = l := by
  unfold setK
  conv => rhs; rw [← List.map_id l]
  exact List.map_congr_left fun x hx => by rw [if_neg (h x hx)]; rfl
theorem usedN_set {l : List KE} (hn : (l.map (·.key)).Nodup) {x e : KE} (hx : x ∈ l) (hk : x.key = e.key) : usedN (setK l e) + x.costs = usedN l + e.costs := by
  induction l with
  | nil => cases hx
  | cons y l ih =>
    rw [List.map_cons, List.nodup_cons] at hn
    have hc : setK (y :: l) e = (if y.key = e.key then e else y) :: setK l e := rfl
    rcases List.mem_cons.1 hx with rfl | hx
    · have h2 : setK l e = l := setK_none fun z hz he => hn.1 (List.mem_map.2 ⟨z, hz, he.trans hk.symm⟩)
      rw [hc, if_pos hk, h2]
      simp only [usedN, List.map_cons, List.sum_cons]
      omega
    · have hne : y.key ≠ e.key := fun h => hn.1 (List.mem_map.2 ⟨x, hx, hk.trans h.symm⟩)
      have h2 := ih hn.2 hx
      rw [hc, if_neg hne]
      simp only [usedN, List.map_cons, List.sum_cons] at *
      omega
/-- The blocks of the entries that have a deadline. -/
def lateKv (l : List KE) : List (List UInt8 × Value) := (l.filter KE.late).map KE.kv
theorem dropK_length {l : List KE} {e : KE} (he : e ∈ l) : (dropK l e.key).length + 1 ≤ l.length := by
  unfold dropK
  induction l with
  | nil => cases he
  | cons x l ih =>
    rcases List.mem_cons.1 he with rfl | he
    · rw [List.filter_cons_of_neg (by simp), List.length_cons]
      exact Nat.succ_le_succ (List.length_filter_le _ _)
    · have := ih he
      rw [List.filter_cons]
      split
      · simp only [List.length_cons]; omega
      · simp only [List.length_cons]; omega
theorem addT_length (l : List (List UInt8)) (k : List UInt8) : (addT l k).length ≤ l.length + 1 := by
  unfold addT
  split
  · omega
  · simp
theorem SpGood.goes {X : Sp} (h : SpGood X) {e : KE} (he : e ∈ X.ents) : SpGood (X.goes e.key) ∧ (X.goes e.key).mass + 2 ≤ X.mass := by
  have hs : (dropK X.ents e.key).Sublist X.ents := List.filter_sublist
  have hm : (X.goes e.key).mass + 2 ≤ X.mass := by
    have h1 := dropK_length he
    have h2 := addT_length X.touched e.key
    show 3 * (dropK X.ents e.key).length + X.steps.length + (addT X.touched e.key).length + X.uses + 2 ≤ 3 * X.ents.length + X.steps.length + X.touched.length + X.uses
    omega
  have hf := h.few
  exact ⟨⟨h.seed, h.keys.sublist (hs.map _), h.blocks.sublist (hs.map _), by omega, fun e he => h.text e (hs.subset he), fun e he => h.cost e (hs.subset he), fun e he => h.dl e (hs.subset he), h.now, fun e he => h.stamp e (hs.subset he), h.most, h.policy, h.samples, h.need⟩, hm⟩
theorem SpGood.touch {X : Sp} (h : SpGood X) (key : List UInt8) (hf : X.mass + 1 ≤ 8388608) : SpGood (X.touch key) ∧ (X.touch key).mass ≤ X.mass + 1 := by
  have h2 := addT_length X.touched key
  have hm : (X.touch key).mass ≤ X.mass + 1 := by
    show 3 * X.ents.length + X.steps.length + (addT X.touched key).length + X.uses ≤ 3 * X.ents.length + X.steps.length + X.touched.length + X.uses + 1
    omega
  exact ⟨⟨h.seed, h.keys, h.blocks, by omega, h.text, h.cost, h.dl, h.now, h.stamp, h.most, h.policy, h.samples, h.need⟩, hm⟩
theorem SpGood.step {X : Sp} (h : SpGood X) (kind : Int) (key : List UInt8) (hf : X.mass + 1 ≤ 8388608) : SpGood (X.step kind key) ∧ (X.step kind key).mass = X.mass + 1 := by
  have hm : (X.step kind key).mass = X.mass + 1 := by
    show 3 * X.ents.length + (X.steps ++ [(kind, key)]).length + X.touched.length + X.uses = 3 * X.ents.length + X.steps.length + X.touched.length + X.uses + 1
    rw [List.length_append, List.length_singleton]; omega
  exact ⟨⟨h.seed, h.keys, h.blocks, by omega, h.text, h.cost, h.dl, h.now, h.stamp, h.most, h.policy, h.samples, h.need⟩, hm⟩
theorem SpGood.expires {X : Sp} (h : SpGood X) {e : KE} (he : e ∈ X.ents) : SpGood (X.expires e.key) ∧ (X.expires e.key).mass + 1 ≤ X.mass := by
  obtain ⟨h1, h2⟩ := h.goes he
  have hf := h.few
  obtain ⟨h3, h4⟩ := h1.step 1 e.key (by omega)
  exact ⟨h3, by unfold Sp.expires; omega⟩
theorem met_none {X : Sp} {key : List UInt8} (h : X.find key = none) : X.met key = (none, X) := by unfold Sp.met; rw [h]
theorem met_past {X : Sp} {key : List UInt8} {e : KE} (h : X.find key = some e) (hp : e.past X.now = true) : X.met key = (none, X.expires key) := by unfold Sp.met; rw [h]; simp [hp]
theorem met_some {X : Sp} {key : List UInt8} {e : KE} (h : X.find key = some e) (hp : e.past X.now = false) : X.met key = (some e, X) := by unfold Sp.met; rw [h]; simp [hp]
theorem SpGood.met {X : Sp} (h : SpGood X) (key : List UInt8) : SpGood (X.met key).2 ∧ (X.met key).2.mass ≤ X.mass := by
  cases hf : X.find key with
  | none => rw [met_none hf]; exact ⟨h, Nat.le_refl _⟩
  | some e =>
    cases hp : e.past X.now with
    | true =>
      rw [met_past hf hp]
      obtain ⟨h1, rfl⟩ := find_some hf
      obtain ⟨h2, h3⟩ := h.expires h1
      exact ⟨h2, by show (X.expires e.key).mass ≤ X.mass; omega⟩
    | false => rw [met_some hf hp]; exact ⟨h, Nat.le_refl _⟩
theorem kv_drop (l : List KE) (key : List UInt8) : (l.map KE.kv).filter (fun p => !(p.1 == key)) = (dropK l key).map KE.kv := by
  rw [List.filter_map]; rfl
theorem late_drop (l : List KE) (key : List UInt8) : (lateKv l).filter (fun p => !(p.1 == key)) = lateKv (dropK l key) := by
  unfold lateKv dropK
  rw [List.filter_map, List.filter_filter, List.filter_filter]
  congr 1
  refine List.filter_congr fun x _ => ?_
  simp only [Function.comp, KE.kv]
  exact Bool.and_comm _ _
theorem late_none {l : List KE} (hn : (l.map (·.key)).Nodup) {e : KE} (he : e ∈ l) (hd : e.dl = 0) : lateKv (dropK l e.key) = lateKv l := by
  unfold lateKv dropK
  rw [List.filter_filter]
  congr 1
  refine List.filter_congr fun x hx => ?_
  by_cases hk : x.key = e.key
  · rw [key_inj hn hx he hk]; simp [KE.late, hd]
  · simp [hk]
theorem kv_set {l : List KE} (hn : (l.map (·.key)).Nodup) {e e' : KE} (he : e ∈ l) (hk : e'.key = e.key) (hb : e'.b = e.b) : (setK l e').map KE.kv = l.map KE.kv := by
  unfold setK
  rw [List.map_map]
  refine List.map_congr_left fun x hx => ?_
  simp only [Function.comp]
  split
  · rename_i h
    rw [key_inj hn hx he (h.trans hk)]
    simp [KE.kv, hk, hb]
  · rfl
theorem late_set {l : List KE} (hn : (l.map (·.key)).Nodup) {e e' : KE} (he : e ∈ l) (hk : e'.key = e.key) (hb : e'.b = e.b) (hd : e'.late = e.late) : lateKv (setK l e') = lateKv l := by
  have : ∀ l2 : List KE, (∀ x ∈ l2, x ∈ l) → lateKv (setK l2 e') = lateKv l2 := by
    intro l2
    induction l2 with
    | nil => intro _; rfl
    | cons x l2 ih =>
      intro hs
      have h1 := ih fun y hy => hs y (List.mem_cons_of_mem _ hy)
      have hc : setK (x :: l2) e' = (if x.key = e'.key then e' else x) :: setK l2 e' := rfl
      unfold lateKv at *
      rw [hc]
      split
      · rename_i h
        have hx := key_inj hn (hs x List.mem_cons_self) he (h.trans hk)
        subst hx
        rw [List.filter_cons, List.filter_cons, hd]
        split
        · rw [List.map_cons, List.map_cons, h1]
          simp [KE.kv, hk, hb]
        · exact h1
      · rw [List.filter_cons, List.filter_cons]
        split
        · rw [List.map_cons, List.map_cons, h1]
        · exact h1
  exact this l fun _ h => h
theorem SpGood.use {X : Sp} (h : SpGood X) {e : KE} (he : e ∈ X.ents) (hm : X.mass + 1 ≤ 8388608) : SpGood (X.use e) ∧ (X.use e).mass = X.mass + 1 := by
  have hms : (X.use e).mass = X.mass + 1 := by
    show 3 * (setK X.ents { e with stamp := X.uses + 1 }).length + X.steps.length + X.touched.length + (X.uses + 1) = 3 * X.ents.length + X.steps.length + X.touched.length + X.uses + 1
    rw [setK_length]; omega
  have hb : (setK X.ents { e with stamp := X.uses + 1 }).map (·.b) = X.ents.map (·.b) := by
    unfold setK
    rw [List.map_map]
    refine List.map_congr_left fun x hx => ?_
    simp only [Function.comp]
    split
    · rename_i hk; rw [key_inj h.keys hx he hk]
    · rfl
  refine ⟨⟨h.seed, ?_, ?_, by omega, fun x hx => ?_, fun x hx => ?_, fun x hx => ?_, h.now, fun x hx => ?_, h.most, h.policy, h.samples, h.need⟩, hms⟩
  · show ((setK X.ents { e with stamp := X.uses + 1 }).map (·.key)).Nodup
    rw [setK_keys]; exact h.keys
  · show ((setK X.ents { e with stamp := X.uses + 1 }).map (·.b)).Nodup
    rw [hb]; exact h.blocks
  · rcases mem_setK hx with rfl | ⟨hx, -⟩
    · exact h.text e he
    · exact h.text x hx
  · rcases mem_setK hx with rfl | ⟨hx, -⟩
    · exact h.cost e he
    · exact h.cost x hx
  · rcases mem_setK hx with rfl | ⟨hx, -⟩
    · exact h.dl e he
    · exact h.dl x hx
  · rcases mem_setK hx with rfl | ⟨hx, -⟩
    · exact Nat.le_refl _
    · exact Nat.le_succ_of_le (h.stamp x hx)
end Pantry

/- A keyspace as plain data: Put, SetDeadline, Persist. -/
set_option linter.unusedVariables false
set_option linter.unusedSimpArgs false
namespace Pantry
open Go Go.RowKit
theorem setK_cons (x : KE) (l : List KE) (e : KE) : setK (x :: l) e = (if x.key = e.key then e else x) :: setK l e := rfl
/-- What an entry without a deadline does to those that have one. -/
theorem late_set0 (l : List KE) (e' : KE) (hd : e'.dl = 0) : lateKv (setK l e') = lateKv (dropK l e'.key) := by
  have hl : e'.late = false := by simp [KE.late, hd]
  induction l with
  | nil => rfl
  | cons x l ih =>
    unfold lateKv dropK at *
    rw [setK_cons, List.filter_cons]
    by_cases hk : x.key = e'.key
    · rw [if_pos hk, hl]
      rw [List.filter_cons (p := fun e : KE => !(e.key == e'.key))]
      simp only [hk, beq_self_eq_true, Bool.not_true, Bool.false_eq_true, if_false]
      exact ih
    · rw [if_neg hk]
      rw [List.filter_cons (p := fun e : KE => !(e.key == e'.key))]
      have : (!(x.key == e'.key)) = true := by simpa using hk
      rw [this, if_pos rfl, List.filter_cons]
      split
      · rw [List.map_cons, List.map_cons, ih]
      · exact ih
/-- An entry that gets its first deadline. -/
theorem late_set1 {l : List KE} (hn : (l.map (·.key)).Nodup) {e e' : KE} (he : e ∈ l) (hk : e'.key = e.key) (h0 : e.dl = 0) (h1 : 0 < e'.dl) : (e'.kv :: lateKv l).Perm (lateKv (setK l e')) := by
  have hl : e'.late = true := by simp [KE.late, h1]
  have hl0 : e.late = false := by simp [KE.late, h0]
  induction l with
  | nil => cases he
  | cons x l ih =>
    rw [List.map_cons, List.nodup_cons] at hn
    unfold lateKv at *
    rw [setK_cons]
    rcases List.mem_cons.1 he with rfl | he
    · have h2 : setK l e' = l := setK_none fun z hz he => hn.1 (List.mem_map.2 ⟨z, hz, he.trans hk⟩)
      rw [if_pos hk.symm, h2, List.filter_cons, List.filter_cons, hl, hl0]
      exact List.Perm.refl _
    · have hne : ¬ x.key = e'.key := fun h => hn.1 (List.mem_map.2 ⟨e, he, (h.trans hk).symm⟩)
      rw [if_neg hne, List.filter_cons, List.filter_cons]
      have := ih hn.2 he
      split
      · rw [List.map_cons, List.map_cons]
        exact (List.Perm.swap _ _ _).trans (this.cons _)
      · exact this
theorem dropK_none {l : List KE} {key : List UInt8} (h : ∀ e ∈ l, e.key ≠ key) : dropK l key = l := by
  unfold dropK
  rw [List.filter_eq_self]
  intro y hy
  have := h y hy
  simpa using this
/-- A new entry under a key. -/
def Sp.put0 (X : Sp) (e : KE) : Sp := { X with ents := e :: dropK X.ents e.key }
/-- What Set makes of the pairs. -/
def setKv (l : List (List UInt8 × Value)) (key : List UInt8) (v : Value) : List (List UInt8 × Value) := if ∃ p ∈ l, p.1 = key then l.map fun p => if p.1 = key then (p.1, v) else p else (key, v) :: l
theorem setKv_perm {l : List KE} (hn : (l.map (·.key)).Nodup) (e : KE) : (setKv (l.map KE.kv) e.key (.pointer (some ⟨e.b, 0, none⟩))).Perm ((e :: dropK l e.key).map KE.kv) := by
  unfold setKv
  split
  · rename_i h
    obtain ⟨p, hp, hpk⟩ := h
    obtain ⟨x, hx, rfl⟩ := List.mem_map.1 hp
    have hxk : x.key = e.key := hpk
    clear hp hpk
    induction l with
    | nil => cases hx
    | cons y l ih =>
      rw [List.map_cons, List.nodup_cons] at hn
      rcases List.mem_cons.1 hx with rfl | hx
      · have h2 : ∀ z ∈ l, z.key ≠ e.key := fun z hz he => hn.1 (List.mem_map.2 ⟨z, hz, he.trans hxk.symm⟩)
        have e1 : dropK (x :: l) e.key = l := by
          have : dropK (x :: l) e.key = dropK l e.key := by
            unfold dropK
            rw [List.filter_cons_of_neg (by simp [hxk])]
          rw [this, dropK_none h2]
        rw [e1]
        simp only [List.map_cons, List.map_map]
        rw [if_pos (by exact hxk)]
        have e2 : l.map ((fun p : List UInt8 × Value => if p.1 = e.key then (p.1, Value.pointer (some ⟨e.b, 0, none⟩)) else p) ∘ KE.kv) = l.map KE.kv := List.map_congr_left fun z hz => by
          simp only [Function.comp]
          rw [if_neg (show ¬ (KE.kv z).1 = e.key from h2 z hz)]
        rw [e2]
        simp only [KE.kv, hxk]
        exact List.Perm.refl _
      · have hne : ¬ y.key = e.key := fun h => hn.1 (List.mem_map.2 ⟨x, hx, hxk.trans h.symm⟩)
        have e1 : dropK (y :: l) e.key = y :: dropK l e.key := by
          unfold dropK
          rw [List.filter_cons_of_pos (by simpa using hne)]
        rw [e1]
        have h3 := ih hn.2 hx
        simp only [List.map_cons] at h3 ⊢
        rw [if_neg (show ¬ (KE.kv y).1 = e.key from hne)]
        exact (h3.cons _).trans (List.Perm.swap _ _ _)
  · rename_i h
    have h2 : ∀ z ∈ l, z.key ≠ e.key := fun z hz he => h ⟨z.kv, List.mem_map.2 ⟨z, hz, rfl⟩, he⟩
    rw [dropK_none h2]
    exact List.Perm.refl _
theorem setKv_late {l : List KE} (hn : (l.map (·.key)).Nodup) {e e' : KE} (he : e ∈ l) (hk : e'.key = e.key) (hb : e'.b = e.b) (h1 : 0 < e'.dl) : (setKv (lateKv l) e.key (.pointer (some ⟨e.b, 0, none⟩))).Perm (lateKv (setK l e')) := by
  have hl : e'.late = true := by simp [KE.late, h1]
  by_cases h0 : e.dl = 0
  · have : ¬ ∃ p ∈ lateKv l, p.1 = e.key := by
      rintro ⟨p, hp, hpk⟩
      obtain ⟨x, hx, rfl⟩ := List.mem_map.1 hp
      obtain ⟨hx, hxl⟩ := List.mem_filter.1 hx
      have := key_inj hn hx he hpk
      subst this
      simp [KE.late, h0] at hxl
    unfold setKv
    rw [if_neg this]
    have e2 : (e.key, Value.pointer (some ⟨e.b, 0, none⟩)) = e'.kv := by simp [KE.kv, hk, hb]
    rw [e2]
    exact late_set1 hn he hk h0 h1
  · have hel : e.late = true := by simp [KE.late]; omega
    rw [late_set hn he hk hb (by rw [hl, hel])]
    unfold setKv
    rw [if_pos ⟨e.kv, List.mem_map.2 ⟨e, List.mem_filter.2 ⟨he, hel⟩, rfl⟩, rfl⟩]
    have : (lateKv l).map (fun p => if p.1 = e.key then (p.1, Value.pointer (some ⟨e.b, 0, none⟩)) else p) = lateKv l := by
      conv => rhs; rw [← List.map_id (lateKv l)]
      refine List.map_congr_left fun p hp => ?_
      obtain ⟨x, hx, rfl⟩ := List.mem_map.1 hp
      obtain ⟨hx, hxl⟩ := List.mem_filter.1 hx
      split
      · rename_i h
        have := key_inj hn hx he h
        subst this
        rfl
      · rfl
    rw [this]
/-- A deadline is set, or taken away. -/
def Sp.dl (X : Sp) (e : KE) (at_ : Nat) : Sp := { X with ents := setK X.ents { e with dl := at_ }, touched := addT X.touched e.key }
theorem setK_blocks {X : Sp} (h : SpGood X) {e e' : KE} (he : e ∈ X.ents) (hk : e'.key = e.key) (hb : e'.b = e.b) : (setK X.ents e').map (·.b) = X.ents.map (·.b) := by
  unfold setK
  rw [List.map_map]
  refine List.map_congr_left fun x hx => ?_
  simp only [Function.comp]
  split
  · rename_i h2; rw [key_inj h.keys hx he (h2.trans hk), hb]
  · rfl
theorem SpGood.dlset {X : Sp} (h : SpGood X) {e : KE} (he : e ∈ X.ents) (at_ : Nat) (ha : at_ ≤ 9007199254740992) (hm : X.mass + 1 ≤ 8388608) : SpGood (X.dl e at_) ∧ (X.dl e at_).mass ≤ X.mass + 1 := by
  have h2 := addT_length X.touched e.key
  have hms : (X.dl e at_).mass ≤ X.mass + 1 := by
    show 3 * (setK X.ents { e with dl := at_ }).length + X.steps.length + (addT X.touched e.key).length + X.uses ≤ 3 * X.ents.length + X.steps.length + X.touched.length + X.uses + 1
    rw [setK_length]; omega
  refine ⟨⟨h.seed, ?_, ?_, by omega, fun x hx => ?_, fun x hx => ?_, fun x hx => ?_, h.now, fun x hx => ?_, h.most, h.policy, h.samples, h.need⟩, hms⟩
  · show ((setK X.ents { e with dl := at_ }).map (·.key)).Nodup
    rw [setK_keys]; exact h.keys
  · show ((setK X.ents { e with dl := at_ }).map (·.b)).Nodup
    rw [setK_blocks (e' := { e with dl := at_ }) h he rfl rfl]; exact h.blocks
  · rcases mem_setK hx with rfl | ⟨hx, -⟩
    · exact h.text e he
    · exact h.text x hx
  · rcases mem_setK hx with rfl | ⟨hx, -⟩
    · exact h.cost e he
    · exact h.cost x hx
  · rcases mem_setK hx with rfl | ⟨hx, -⟩
    · exact ha
    · exact h.dl x hx
  · rcases mem_setK hx with rfl | ⟨hx, -⟩
    · exact h.stamp e he
    · exact h.stamp x hx
theorem SpGood.put0 {X : Sp} (h : SpGood X) (e : KE) (hk : e.key.length ≤ 1048576) (hc : e.cost ≤ 2199023255552) (hd : e.dl = 0) (hst : e.stamp = 0) (hb : ∀ x ∈ X.ents, x.b ≠ e.b) (hm : X.mass + 3 ≤ 8388608) : SpGood (X.put0 e) ∧ (X.put0 e).mass ≤ X.mass + 3 := by
  have hs : (dropK X.ents e.key).Sublist X.ents := List.filter_sublist
  have hms : (X.put0 e).mass ≤ X.mass + 3 := by
    show 3 * (e :: dropK X.ents e.key).length + X.steps.length + X.touched.length + X.uses ≤ 3 * X.ents.length + X.steps.length + X.touched.length + X.uses + 3
    have := hs.length_le
    rw [List.length_cons]; omega
  refine ⟨⟨h.seed, ?_, ?_, by omega, fun x hx => ?_, fun x hx => ?_, fun x hx => ?_, h.now, fun x hx => ?_, h.most, h.policy, h.samples, h.need⟩, hms⟩
  · show ((e :: dropK X.ents e.key).map (·.key)).Nodup
    rw [List.map_cons, List.nodup_cons]
    refine ⟨fun hx => ?_, h.keys.sublist (hs.map _)⟩
    obtain ⟨x, hx, hxe⟩ := List.mem_map.1 hx
    exact (mem_dropK.1 hx).2 hxe
  · show ((e :: dropK X.ents e.key).map (·.b)).Nodup
    rw [List.map_cons, List.nodup_cons]
    refine ⟨fun hx => ?_, h.blocks.sublist (hs.map _)⟩
    obtain ⟨x, hx, hxe⟩ := List.mem_map.1 hx
    exact hb x (hs.subset hx) hxe
  · rcases List.mem_cons.1 hx with rfl | hx
    · exact hk
    · exact h.text x (hs.subset hx)
  · rcases List.mem_cons.1 hx with rfl | hx
    · exact hc
    · exact h.cost x (hs.subset hx)
  · rcases List.mem_cons.1 hx with rfl | hx
    · omega
    · exact h.dl x (hs.subset hx)
  · rcases List.mem_cons.1 hx with rfl | hx
    · show x.stamp ≤ X.uses; omega
    · exact h.stamp x (hs.subset hx)
end Pantry
