/- A keyspace: Put. -/
import Derived.Test.YtelbmphmihjgfaaGreatZKsOps2
set_option linter.unusedVariables false
set_option linter.unusedSimpArgs false
namespace Pantry
open Go Go.RowKit
/-- What Put stores: a new entry, in the place of an old one, used and touched. -/
def Sp.put (X : Sp) (key : List UInt8) (b v c : Nat) : Sp := (((X.met key).2.put0 ⟨key, b, v, c, 0, 0⟩).use ⟨key, b, v, c, 0, 0⟩).touch key
theorem put_good {X : Sp} (h : SpGood X) (key : List UInt8) (b v c : Nat) (hk : key.length ≤ 1048576) (hc : c ≤ 2199023255552) (hb : ∀ x ∈ (X.met key).2.ents, x.b ≠ b) (hm : X.mass + 5 ≤ 8388608) :
    SpGood ((X.met key).2.put0 ⟨key, b, v, c, 0, 0⟩) ∧ SpGood (((X.met key).2.put0 ⟨key, b, v, c, 0, 0⟩).use ⟨key, b, v, c, 0, 0⟩) ∧ SpGood (X.put key b v c) ∧ (X.put key b v c).mass ≤ X.mass + 5 := by
  obtain ⟨g1, g2⟩ := h.met key
  obtain ⟨g3, g4⟩ := g1.put0 ⟨key, b, v, c, 0, 0⟩ hk hc rfl rfl hb (by omega)
  obtain ⟨g5, g6⟩ := g3.use (e := ⟨key, b, v, c, 0, 0⟩) List.mem_cons_self (by omega)
  obtain ⟨g7, g8⟩ := g5.touch key (by omega)
  exact ⟨g3, g5, g7, by unfold Sp.put; omega⟩
end Pantry
namespace Go.Proofs.YtelbmphmihjgfaaGreat.DEnt
open Go.RowKit Pantry Go.Maps

/-- What Put asks of a value, whatever happens to the space's own blocks. -/
structure VOk (w : World) (F : Nat → Prop) (v : Nat) (tx : List UInt8) (emp : Bool) (c : Nat) : Prop where
  text : ∀ W, Chg F w W → Calls Tryz.prog 50 #[.pointer (some ⟨v, 0, none⟩)] W fun r W' => (∃ b, r = .returned (.tuple #[.string ⟨tx.toArray⟩, .bool b])) ∧ Below W.heap.size W W'
  empty : ∀ W, Chg F w W → Calls Tryz.prog 51 #[.pointer (some ⟨v, 0, none⟩)] W fun r W' => r = .returned (.bool emp) ∧ Below W.heap.size W W'
  cost : ∀ W, Chg F w W → Calls Tryz.prog 55 #[.pointer (some ⟨v, 0, none⟩)] W fun r W' => r = .returned (.int .i64 c) ∧ Below W.heap.size W W'
def putCode (key tx : List UInt8) : Int := if 1048576 < key.length ∨ 1048576 < tx.length then 2 else 0
/-- What Put does. -/
def PutPost (s : Nat) (F : Nat → Prop) (X : Sp) (key tx : List UInt8) (v : Nat) (emp : Bool) (c : Nat) (w : World) (r : Ending) (w' : World) : Prop :=
  r = .returned (.int .i64 (putCode key tx)) ∧ ∃ b, w.heap.size ≤ b ∧ SpTo s F (if putCode key tx = 2 then X else if emp = true then X.del key else X.put key b v c) w w'
section
variable {w : World} {F : Nat → Prop} {s : Nat} {X : Sp}
theorem Run.entLt {w0 w : World} {F0 : Nat → Prop} {s m l t : Nat} {R : Raw} (h : Run w0 F0 w s m l t R) {e : KE} (he : e ∈ R.ents) : e.b < w.heap.size := by
  obtain ⟨M, L, sv, h1, -⟩ := h.ex
  exact block_lt (h1.ents e he)
theorem put_raw {X : Sp} (e : KE) (u : Int) (hd : e.dl = 0) (hu : u = (usedN (dropK X.ents e.key) : Nat) + (e.costs : Nat)) :
    (⟨X.seed, X.most, X.policy, X.samples, X.now, X.uses, u, (e :: dropK X.ents e.key).map KE.kv, lateKv (dropK X.ents e.key), e :: dropK X.ents e.key, X.touched, X.steps⟩ : Raw) = (X.put0 e).raw := by
  have hl : e.late = false := by simp [KE.late, hd]
  simp only [Sp.raw, Sp.put0, Raw.mk.injEq, true_and, and_true]
  refine ⟨by rw [hu]; simp [usedN]; omega, ?_⟩
  unfold lateKv
  rw [List.filter_cons, hl]; rfl
set_option maxHeartbeats 4000000 in
/-- A text that is too long. -/
theorem sPutLong (h : SpH w s F X) (key tx : List UInt8) (v c : Nat) (emp : Bool) (hv : VOk w F v tx emp c) (hk : key.length ≤ 140737488351232) (hx : tx.length ≤ 140737488351232) (hc : putCode key tx = 2) :
    Calls Tryz.prog 24 #[.pointer (some ⟨s, 0, none⟩), .string ⟨key.toArray⟩, .pointer (some ⟨v, 0, none⟩)] w (PutPost s F X key tx v emp c w) := by
  have HPC := Lib.hid hc
  have hl : 1048576 < key.length ∨ 1048576 < tx.length := by
    unfold putCode at hc
    split at hc
    · assumption
    · cases hc
  have HT := Lib.hid (hv.text w (Chg.refl _ _))
  obtain ⟨m, l, t, hr⟩ := h.run
  have HR := Lib.hid hr
  have HG := Lib.hid h.good
  have hmx2 : (max (key.length : Int) (tx.length : Int) > 1048576) = True := by simp; omega
  clear h hr hv hc
  go_enter Tryz.func24, Tryz.ntmps24
  go_wp2_with (go_at_call 50; refine HT.out.mono ?_; rintro r w1 ⟨⟨b, rfl⟩, hb⟩; have HB := Lib.hid hb; clear hb HT)
  go_ret
  unfold PutPost
  rw [HPC.out]
  refine ⟨rfl, w.heap.size, Nat.le_refl _, ?_⟩
  rw [if_pos rfl]
  exact (HR.out.below HB.out).to HG.out
set_option maxHeartbeats 4000000 in
/-- An empty value. -/
theorem sPutEmp (h : SpH w s F X) (key tx : List UInt8) (v c : Nat) (hv : VOk w F v tx true c) (hk : key.length ≤ 1048576) (hx : tx.length ≤ 1048576) :
    Calls Tryz.prog 24 #[.pointer (some ⟨s, 0, none⟩), .string ⟨key.toArray⟩, .pointer (some ⟨v, 0, none⟩)] w (PutPost s F X key tx v true c w) := by
  have hc : putCode key tx = 0 := by unfold putCode; rw [if_neg (by omega)]
  have HPC := Lib.hid hc
  have HT := Lib.hid (hv.text w (Chg.refl _ _))
  have HV := Lib.hid hv
  obtain ⟨m, l, t, hr⟩ := h.run
  have HR := Lib.hid hr
  have HG := Lib.hid h.good
  have HGG := Lib.hid (h.good.del key)
  have hmx2 : (max (key.length : Int) (tx.length : Int) > 1048576) = False := by simp; omega
  have HMET : Hid (∀ W, Run w F W s m l t X.raw → Calls Tryz.prog 43 #[.pointer (some ⟨s, 0, none⟩), .string ⟨key.toArray⟩] W fun r w' => r = MetRes (X.met key).1 ∧ Run w F w' s m l t (X.met key).2.raw) := Lib.hid fun W hW => met_any hW HG.out key (by omega)
  clear h hr hv hc
  cases ho : (X.met key).1 with
  | none =>
    have HX := Lib.hid (show X.del key = (X.met key).2 by unfold Sp.del; rw [ho])
    rw [ho] at HMET
    unfold MetRes at HMET
    simp only at HMET ⊢
    clear ho
    go_enter Tryz.func24, Tryz.ntmps24
    go_wp2_with (first
      | (go_at_call 50; refine HT.out.mono ?_; rintro r w1 ⟨⟨b, rfl⟩, hb⟩; have HR1 := Lib.hid (HR.out.below hb); clear hb HT)
      | (go_at_call 43; refine (HMET.out _ HR1.out).mono ?_; rintro r w2 ⟨rfl, hr⟩; have HR2 := Lib.hid hr; clear hr HMET)
      | (go_at_call 51; refine (HV.out.empty _ HR2.out.chg).mono ?_; rintro r w3 ⟨rfl, hb⟩; have HR3 := Lib.hid (HR2.out.below hb); clear hb HR2))
    go_ret
    unfold PutPost
    rw [HPC.out]
    refine ⟨rfl, w.heap.size, Nat.le_refl _, ?_⟩
    rw [if_neg (by decide), if_pos rfl, HX.out]
    exact HR3.out.to (by rw [← HX.out]; exact HGG.out.1)
  | some e =>
    obtain ⟨h1, h2, h3⟩ := met_some_inv ho
    obtain ⟨he, rfl⟩ := find_some h1
    have HX := Lib.hid (show X.del e.key = X.goes e.key by unfold Sp.del; rw [ho])
    rw [ho, h3] at HMET
    have HE := Lib.hid he
    unfold MetRes at HMET
    simp only at HMET ⊢
    clear ho h1 h2 h3 he
    go_enter Tryz.func24, Tryz.ntmps24
    go_wp2_with (first
      | (go_at_call 50; refine HT.out.mono ?_; rintro r w1 ⟨⟨b, rfl⟩, hb⟩; have HR1 := Lib.hid (HR.out.below hb); clear hb HT)
      | (go_at_call 43; refine (HMET.out _ HR1.out).mono ?_; rintro r w2 ⟨rfl, hr⟩; have HR2 := Lib.hid hr; clear hr HMET)
      | (go_at_call 51; refine (HV.out.empty _ HR2.out.chg).mono ?_; rintro r w3 ⟨rfl, hb⟩; have HR3 := Lib.hid (HR2.out.below hb); clear hb HR2)
      | (go_at_call 52; refine (goes_any HR3.out HG.out HE.out).mono ?_; rintro r w4 ⟨rfl, hr⟩; have HR4 := Lib.hid hr; clear hr HR3))
    go_ret
    unfold PutPost
    rw [HPC.out]
    refine ⟨rfl, w.heap.size, Nat.le_refl _, ?_⟩
    rw [if_neg (by decide), if_pos rfl, HX.out]
    exact HR4.out.to (by rw [← HX.out]; exact HGG.out.1)
theorem Run.newE {w0 w : World} {F0 : Nat → Prop} {s m l t : Nat} {R : Raw} (h : Run w0 F0 w s m l t R) (key : List UInt8) (v c : Nat) (es : List KE) (hes : ∀ e ∈ es, e ∈ R.ents) :
    Run w0 F0 (w.alloc (.cells #[.pointer (some ⟨v, 0, none⟩), .int .i64 c, .int .u64 0, .int .i64 0] 103)) s m l t { R with ents := ⟨key, w.heap.size, v, c, 0, 0⟩ :: es } :=
  (h.lessEnts hes).newEnt ⟨key, w.heap.size, v, c, 0, 0⟩ rfl
set_option maxHeartbeats 8000000 in
/-- A value that is laid under a new key. -/
theorem sPutNew (h : SpH w s F X) (key tx : List UInt8) (v c : Nat) (hv : VOk w F v tx false c) (hk : key.length ≤ 1048576) (hx : tx.length ≤ 1048576) (hcst : c ≤ 2199023255552) (hm : X.mass + 5 ≤ 8388608) (ho : (X.met key).1 = none) :
    Calls Tryz.prog 24 #[.pointer (some ⟨s, 0, none⟩), .string ⟨key.toArray⟩, .pointer (some ⟨v, 0, none⟩)] w (PutPost s F X key tx v false c w) := by
  have hmx : Tryz.prog.follows .mixedOrders = true := by kernel_rfl
  have hc : putCode key tx = 0 := by unfold putCode; rw [if_neg (by omega)]
  have HPC := Lib.hid hc
  have HT := Lib.hid (hv.text w (Chg.refl _ _))
  have HV := Lib.hid hv
  obtain ⟨m, l, t, hr⟩ := h.run
  have HR := Lib.hid hr
  have HG := Lib.hid h.good
  obtain ⟨X1, hX1⟩ : ∃ X1, (X.met key).2 = X1 := ⟨_, rfl⟩
  obtain ⟨g1, g2⟩ := h.good.met key
  have hnone : ∀ x ∈ X1.ents, x.key ≠ key := by
    rw [← hX1]
    cases hf : X.find key with
    | none => rw [met_none hf]; exact find_none hf
    | some e =>
      cases hp : e.past X.now with
      | true => rw [met_past hf hp]; exact fun x hx => (mem_dropK.1 hx).2
      | false => rw [met_some hf hp] at ho; cases ho
  have HPG : Hid (∀ b, (∀ x ∈ X1.ents, x.b ≠ b) → SpGood (X1.put0 ⟨key, b, v, c, 0, 0⟩) ∧ SpGood ((X1.put0 ⟨key, b, v, c, 0, 0⟩).use ⟨key, b, v, c, 0, 0⟩) ∧ SpGood (X.put key b v c)) := Lib.hid fun b hb => by
    rw [← hX1] at hb ⊢
    obtain ⟨q1, q2, q3, -⟩ := put_good h.good key b v c hk hcst hb hm
    exact ⟨q1, q2, q3⟩
  have HPUT : Hid (∀ b, X.put key b v c = ((X1.put0 ⟨key, b, v, c, 0, 0⟩).use ⟨key, b, v, c, 0, 0⟩).touch key) := Lib.hid fun b => by rw [← hX1]; rfl
  have hmx2 : (max (key.length : Int) (tx.length : Int) > 1048576) = False := by simp; omega
  have HMET : Hid (∀ W, Run w F W s m l t X.raw → Calls Tryz.prog 43 #[.pointer (some ⟨s, 0, none⟩), .string ⟨key.toArray⟩] W fun r w' => r = MetRes (X.met key).1 ∧ Run w F w' s m l t (X.met key).2.raw) := Lib.hid fun W hW => met_any hW HG.out key (by omega)
  rw [ho, hX1] at HMET
  rw [hX1] at g1 g2
  have hub := g1.used
  have hel := g1.ents
  have hll := lateKv_length X1.ents
  have HKEY : Hid (key.length ≤ 140737488351232) := Lib.hid (by omega)
  have HKM : Hid (X1.raw.km.length ≤ 268435456) := Lib.hid (by simp [Sp.raw]; omega)
  have HTL : Hid (X1.raw.touched.length ≤ 1073741824) := Lib.hid (by have := g1.few; unfold Sp.mass at this; simp [Sp.raw]; omega)
  have HNONE := Lib.hid hnone
  have HG1 := Lib.hid g1
  obtain ⟨u, hu⟩ : ∃ u, usedN X1.ents = u := ⟨_, rfl⟩
  have HUU := Lib.hid hu
  rw [hu] at hub
  have hcc : KE.costs ⟨key, 0, v, c, 0, 0⟩ ≤ 2199024304192 := KE.costs_le hk hcst
  obtain ⟨c2, hc2⟩ : ∃ c2, KE.costs ⟨key, 0, v, c, 0, 0⟩ = c2 := ⟨_, rfl⟩
  have HC2 : Hid (∀ b, KE.costs ⟨key, b, v, c, 0, 0⟩ = c2) := Lib.hid fun b => by rw [← hc2]; rfl
  rw [hc2] at hcc
  have HC : Hid (∀ W b, W.cell? ⟨b, 1, none⟩ = some (.int .i64 c) → W.cell? ⟨b, 3, none⟩ = some (.int .i64 0) → Calls Tryz.prog 53 #[.pointer (some ⟨b, 0, none⟩), .string ⟨key.toArray⟩] W fun r w' => r = .returned (.int .i64 c2) ∧ W = w') := Lib.hid fun W b q1 q3 => by
    have := costs_any W ⟨key, b, v, c, 0, 0⟩ q1 q3 hk hcst (Nat.zero_le _)
    rwa [HC2.out b] at this
  have HSKV : Hid (∀ b, (setKv X1.raw.km key (.pointer (some ⟨b, 0, none⟩))).Perm ((⟨key, b, v, c, 0, 0⟩ :: dropK X1.ents key : List KE).map KE.kv)) := Lib.hid fun b => setKv_perm g1.keys ⟨key, b, v, c, 0, 0⟩
  have HDROP : Hid (dropK X1.ents key = X1.ents) := Lib.hid (dropK_none hnone)
  have HRAW : Hid (∀ b, (⟨X1.seed, X1.most, X1.policy, X1.samples, X1.now, X1.uses, (u : Int) + (c2 : Int), (⟨key, b, v, c, 0, 0⟩ :: dropK X1.ents key : List KE).map KE.kv, lateKv (dropK X1.ents key), ⟨key, b, v, c, 0, 0⟩ :: dropK X1.ents key, X1.touched, X1.steps⟩ : Raw) = (X1.put0 ⟨key, b, v, c, 0, 0⟩).raw) := Lib.hid fun b => put_raw ⟨key, b, v, c, 0, 0⟩ _ rfl (by rw [HC2.out b]; show (u : Int) + c2 = (usedN (dropK X1.ents key) : Nat) + (c2 : Nat); rw [HDROP.out, hu])
  unfold MetRes at HMET
  simp only at HMET ⊢
  clear h hr hv hc ho hX1 g1 g2 hnone hel hll hu hc2
  go_enter Tryz.func24, Tryz.ntmps24
  go_upto_region 17 with (first
    | (go_at_call 50; refine HT.out.mono ?_; rintro r w1 ⟨⟨b, rfl⟩, hb⟩; have HR1 := Lib.hid (HR.out.below hb); clear hb HT)
    | (go_at_call 43; refine (HMET.out _ HR1.out).mono ?_; rintro r w2 ⟨rfl, hr⟩; have HR2 := Lib.hid hr; clear hr HMET)
    | (go_at_call 51; refine (HV.out.empty _ HR2.out.chg).mono ?_; rintro r w3 ⟨rfl, hb⟩; have HR3 := Lib.hid (HR2.out.below hb); clear hb HR2)
    | (go_at_call 55; refine (HV.out.cost _ HR3.out.chg).mono ?_; rintro r w4 ⟨rfl, hb⟩
       have h4 := HR3.out.below hb
       have HNB : Hid (∀ x ∈ X1.ents, x.b ≠ w4.heap.size) := Lib.hid fun x hx e => by have := h4.entLt (e := x) hx; omega
       have h5 := h4.newE key v c X1.ents fun e he => he
       obtain ⟨sv, -, -, -, -, -, -, -, d7, -⟩ := h5.cells
       have HR5 := Lib.hid h5
       have HWL : Hid (w.heap.size ≤ w4.heap.size) := Lib.hid h4.chg.size
       clear hb HR3 h4 h5)
    | (go_at_call 56
       refine (HR5.out.set key _ HKEY.out HKM.out).mono ?_
       rintro r w6 ⟨⟨b, rfl⟩, hr⟩
       obtain ⟨-, e1, -, e3, -⟩ := hr.ent (e := ⟨key, w4.heap.size, v, c, 0, 0⟩) List.mem_cons_self
       obtain ⟨sv6, -, -, -, -, -, -, c6, -, -, -, -, cf⟩ := hr.cells
       have c6' : w6.cell? ⟨s, 6, none⟩ = some (.int .i64 u) := by rw [← HUU.out]; exact c6
       have cf6 := cf 6
       have HR6 := Lib.hid hr
       have HR7 : Hid (Run w F (w6.drew.setCell ⟨s, 6, none⟩ (.int .i64 ((u : Int) + (c2 : Int)))) s m l t (X1.put0 ⟨key, w4.heap.size, v, c, 0, 0⟩).raw) := Lib.hid (by
         have h7 := ((hr.below (Below.refl _ _).drew).setUsed ((u : Int) + (c2 : Int))).permKm (HSKV.out w4.heap.size)
         rw [← HRAW.out w4.heap.size]
         have hd := HDROP.out
         rw [hd]
         rw [hd] at h7
         exact h7)
       clear hr HR5 cf c6))
  go_region_with (go_at_call 53; refine (HC.out w6.drew w4.heap.size e1 e3).mono ?_; rintro r w7 ⟨rfl, rfl⟩)
  all_goals
    go_wp2_with (first
      | (go_at_call 57
         refine (use_any HR7.out (HPG.out _ HNB.out).1 (e := ⟨key, w4.heap.size, v, c, 0, 0⟩) List.mem_cons_self).mono ?_
         rintro r w8 ⟨rfl, hr⟩
         have HR8 := Lib.hid hr
         clear hr HR7)
      | (go_at_call 58
         refine (HR8.out.touch key HKEY.out HTL.out).mono ?_
         rintro r w9 ⟨rfl, hr⟩
         have HR9 := Lib.hid hr
         clear hr HR8))
    go_ret
    unfold PutPost
    rw [HPC.out]
    refine ⟨rfl, w4.heap.size, HWL.out, ?_⟩
    rw [if_neg (by decide), if_neg (by decide)]
    refine Run.to (X := X.put key w4.heap.size v c) (m := m) (l := l) (t := t) ?_ (HPG.out _ HNB.out).2.2
    rw [HPUT.out]
    exact HR9.out
end
end Go.Proofs.YtelbmphmihjgfaaGreat.DEnt

/- A keyspace: Put under a key that is there; Put. -/
set_option linter.unusedVariables false
set_option linter.unusedSimpArgs false
namespace Go.Proofs.YtelbmphmihjgfaaGreat.DEnt
open Go.RowKit Pantry Go.Maps

section
variable {w : World} {F : Nat → Prop} {s : Nat} {X : Sp}
set_option maxHeartbeats 8000000 in
theorem sPutOld0 (h : SpH w s F X) (tx : List UInt8) (v c : Nat) (e : KE) (hv : VOk w F v tx false c) (hk : e.key.length ≤ 1048576) (hx : tx.length ≤ 1048576) (hcst : c ≤ 2199023255552) (hm : X.mass + 5 ≤ 8388608) (ho : (X.met e.key).1 = some e) (hd0 : e.dl = 0) :
    Calls Tryz.prog 24 #[.pointer (some ⟨s, 0, none⟩), .string ⟨e.key.toArray⟩, .pointer (some ⟨v, 0, none⟩)] w (PutPost s F X e.key tx v false c w) := by
  have hmx : Tryz.prog.follows .mixedOrders = true := by kernel_rfl
  have hc : putCode e.key tx = 0 := by unfold putCode; rw [if_neg (by omega)]
  have HPC := Lib.hid hc
  have HT := Lib.hid (hv.text w (Chg.refl _ _))
  have HV := Lib.hid hv
  obtain ⟨m, l, t, hr⟩ := h.run
  have HR := Lib.hid hr
  have HG := Lib.hid h.good
  obtain ⟨hf, hp, h3⟩ := met_some_inv ho
  have he := (find_some hf).1
  have HPG : Hid (∀ b, (∀ x ∈ X.ents, x.b ≠ b) → SpGood (X.put0 ⟨e.key, b, v, c, 0, 0⟩) ∧ SpGood (X.put e.key b v c)) := Lib.hid fun b hb => by
    have := put_good h.good e.key b v c hk hcst (by rw [h3]; exact hb) hm
    rw [h3] at this
    exact ⟨this.1, this.2.2.1⟩
  have HPUT : Hid (∀ b, X.put e.key b v c = ((X.put0 ⟨e.key, b, v, c, 0, 0⟩).use ⟨e.key, b, v, c, 0, 0⟩).touch e.key) := Lib.hid fun b => by unfold Sp.put; rw [h3]
  have hmx2 : (max (e.key.length : Int) (tx.length : Int) > 1048576) = False := by simp; omega
  have HMET : Hid (∀ W, Run w F W s m l t X.raw → Calls Tryz.prog 43 #[.pointer (some ⟨s, 0, none⟩), .string ⟨e.key.toArray⟩] W fun r w' => r = MetRes (X.met e.key).1 ∧ Run w F w' s m l t (X.met e.key).2.raw) := Lib.hid fun W hW => met_any hW HG.out e.key (by omega)
  rw [ho, h3] at HMET
  have hub := h.good.used
  have hel := h.good.ents
  have hll := lateKv_length X.ents
  have hcu := usedN_drop h.good.keys he
  have hcl := h.good.cost e he
  have hdl := h.good.dl e he
  have HKEY : Hid (e.key.length ≤ 140737488351232) := Lib.hid (by omega)
  have HKM : Hid (X.raw.km.length ≤ 268435456) := Lib.hid (by simp [Sp.raw]; omega)
  have HKL : Hid (X.raw.kl.length ≤ 268435456) := Lib.hid (by simp [Sp.raw]; omega)
  have HTL : Hid (X.raw.touched.length ≤ 1073741824) := Lib.hid (by have := h.good.few; unfold Sp.mass at this; simp [Sp.raw]; omega)
  have HE := Lib.hid he
  have HLE : Hid (∀ x ∈ dropK X.ents e.key, x ∈ X.ents) := Lib.hid fun x hx => (mem_dropK.1 hx).1
  have HC0 : Hid (∀ W, W.cell? ⟨e.b, 1, none⟩ = some (.int .i64 e.cost) → W.cell? ⟨e.b, 3, none⟩ = some (.int .i64 e.dl) → Calls Tryz.prog 53 #[.pointer (some ⟨e.b, 0, none⟩), .string ⟨e.key.toArray⟩] W fun r w' => r = .returned (.int .i64 (e.costs : Nat)) ∧ W = w') := Lib.hid fun W q1 q3 => costs_any W e q1 q3 hk hcl hdl
  obtain ⟨u, hu⟩ : ∃ u, usedN X.ents = u := ⟨_, rfl⟩
  obtain ⟨u1, hu1⟩ : ∃ u, usedN (dropK X.ents e.key) = u := ⟨_, rfl⟩
  obtain ⟨c1, hc1⟩ : ∃ u, e.costs = u := ⟨_, rfl⟩
  rw [hu] at hub
  rw [hu, hu1, hc1] at hcu
  rw [hc1] at HC0
  have HUU := Lib.hid hu
  have hcc : KE.costs ⟨e.key, 0, v, c, 0, 0⟩ ≤ 2199024304192 := KE.costs_le hk hcst
  obtain ⟨c2, hc2⟩ : ∃ c2, KE.costs ⟨e.key, 0, v, c, 0, 0⟩ = c2 := ⟨_, rfl⟩
  have HC2 : Hid (∀ b, KE.costs ⟨e.key, b, v, c, 0, 0⟩ = c2) := Lib.hid fun b => by rw [← hc2]; rfl
  rw [hc2] at hcc
  have HC : Hid (∀ W b, W.cell? ⟨b, 1, none⟩ = some (.int .i64 c) → W.cell? ⟨b, 3, none⟩ = some (.int .i64 0) → Calls Tryz.prog 53 #[.pointer (some ⟨b, 0, none⟩), .string ⟨e.key.toArray⟩] W fun r w' => r = .returned (.int .i64 c2) ∧ W = w') := Lib.hid fun W b q1 q3 => by
    have := costs_any W ⟨e.key, b, v, c, 0, 0⟩ q1 q3 hk hcst (Nat.zero_le _)
    rwa [HC2.out b] at this
  have HSKV : Hid (∀ b, (setKv X.raw.km e.key (.pointer (some ⟨b, 0, none⟩))).Perm ((⟨e.key, b, v, c, 0, 0⟩ :: dropK X.ents e.key : List KE).map KE.kv)) := Lib.hid fun b => setKv_perm h.good.keys ⟨e.key, b, v, c, 0, 0⟩
  have hcle : c1 ≤ u := by omega
  have HEQ : Hid ((u : Int) - (c1 : Int) + (c2 : Int) = (u1 : Nat) + (c2 : Nat)) := Lib.hid (by omega)
  have HRAW : Hid (∀ b, (⟨X.seed, X.most, X.policy, X.samples, X.now, X.uses, (u : Int) - (c1 : Int) + (c2 : Int), (⟨e.key, b, v, c, 0, 0⟩ :: dropK X.ents e.key : List KE).map KE.kv, X.raw.kl, ⟨e.key, b, v, c, 0, 0⟩ :: dropK X.ents e.key, X.touched, X.steps⟩ : Raw) = (X.put0 ⟨e.key, b, v, c, 0, 0⟩).raw) := Lib.hid fun b => by
    rw [show X.raw.kl = lateKv (dropK X.ents e.key) from (late_none HG.out.keys he hd0).symm]
    exact put_raw ⟨e.key, b, v, c, 0, 0⟩ _ rfl (by rw [HC2.out b, HEQ.out]; show _ = ((usedN (dropK X.ents e.key) : Nat) : Int) + (c2 : Nat); rw [hu1])
  have HU : Hid (∀ W, Run w F W s m l t X.raw → W.cell? ⟨s, 6, none⟩ = some (.int .i64 u) ∧ (∀ j, W.frozen? ⟨s, j, none⟩ = false)) := Lib.hid fun W hr => by
    obtain ⟨sv, -, -, -, -, -, -, c6, -, -, -, -, cf⟩ := hr.cells
    exact ⟨by rw [← hu]; exact c6, cf⟩
  unfold MetRes at HMET
  simp only at HMET ⊢
  have hdg : ((e.dl : Int) > 0) = False := by simp; omega
  have hd1 : ¬ 0 < e.dl := by omega
  clear h hr hv hc ho hf hp h3 he hel hll hu hu1 hc1 hc2 hcu hcl hdl hd0
  go_enter Tryz.func24, Tryz.ntmps24
  go_upto_region 12 with (first
    | (go_at_call 50; refine HT.out.mono ?_; rintro r w1 ⟨⟨b, rfl⟩, hb⟩; have HR1 := Lib.hid (HR.out.below hb); clear hb HT)
    | (go_at_call 43; refine (HMET.out _ HR1.out).mono ?_; rintro r w2 ⟨rfl, hr⟩; have HR2 := Lib.hid hr; clear hr HMET)
    | (go_at_call 51; refine (HV.out.empty _ HR2.out.chg).mono ?_; rintro r w3 ⟨rfl, hb⟩
       have h3 := HR2.out.below hb
       obtain ⟨c6, cf⟩ := HU.out _ h3
       obtain ⟨-, e1, -, e3, -⟩ := h3.ent HE.out
       obtain ⟨sv3, -, -, -, -, -, -, -, q7, q8, -⟩ := h3.cells
       have cf6 := cf 6
       have hr4 := (h3.below (Below.refl _ _).drew).setUsed ((u : Int) - (c1 : Int))
       obtain ⟨sv4, -, -, -, -, -, -, -, d7, d8, -⟩ := hr4.cells
       obtain ⟨-, f1, -, f3, -⟩ := hr4.ent HE.out
       have HR5 := Lib.hid hr4
       clear hb HR2 h3 cf hr4))
  go_region_with (go_at_call 53; refine (HC0.out w3.drew e1 e3).mono ?_; rintro r w4 ⟨rfl, rfl⟩)
  all_goals
    go_upto_region 17 with (first
      | (go_at_call 55; (refine (HV.out.cost _ HR5.out.chg).mono ?_); (rintro r w6 ⟨rfl, hb⟩)
         have h6 := HR5.out.below hb
         have HNB : Hid (∀ x ∈ X.ents, x.b ≠ w6.heap.size) := Lib.hid fun x hx e => by have := h6.entLt (e := x) hx; omega
         have h7 := h6.newE e.key v c (dropK X.ents e.key) HLE.out
         obtain ⟨sv7, -, -, -, -, -, -, -, g7, -⟩ := h7.cells
         have HR7 := Lib.hid h7
         have HWL : Hid (w.heap.size ≤ w6.heap.size) := Lib.hid h6.chg.size
         clear hb HR5 h6 h7)
      | (go_at_call 56
         refine (HR7.out.set e.key _ HKEY.out HKM.out).mono ?_
         rintro r w8 ⟨⟨b, rfl⟩, hr⟩
         obtain ⟨-, i1, -, i3, -⟩ := hr.ent (e := ⟨e.key, w6.heap.size, v, c, 0, 0⟩) List.mem_cons_self
         obtain ⟨sv8, -, -, -, -, -, -, c6, -, -, -, -, cf⟩ := hr.cells
         have cf6' := cf 6
         have c6' : w8.cell? ⟨s, 6, none⟩ = some (.int .i64 ((u : Int) - (c1 : Int))) := c6
         have HR9 : Hid (Run w F (w8.drew.setCell ⟨s, 6, none⟩ (.int .i64 ((u : Int) - (c1 : Int) + (c2 : Int)))) s m l t (X.put0 ⟨e.key, w6.heap.size, v, c, 0, 0⟩).raw) := Lib.hid (by
           have h9 := ((hr.below (Below.refl _ _).drew).setUsed ((u : Int) - (c1 : Int) + (c2 : Int))).permKm (HSKV.out w6.heap.size)
           rw [← HRAW.out w6.heap.size]
           exact h9)
         clear hr HR7 cf c6))
    go_region_with (go_at_call 53; refine (HC.out w8.drew w6.heap.size i1 i3).mono ?_; rintro r w9 ⟨rfl, rfl⟩)
    all_goals
      go_wp2_with (first
        | (go_at_call 57
           refine (use_any HR9.out (HPG.out _ HNB.out).1 (e := ⟨e.key, w6.heap.size, v, c, 0, 0⟩) List.mem_cons_self).mono ?_
           rintro r w10 ⟨rfl, hr⟩
           have HR10 := Lib.hid hr
           clear hr HR9)
        | (go_at_call 58
           refine (HR10.out.touch e.key HKEY.out HTL.out).mono ?_
           rintro r w11 ⟨rfl, hr⟩
           have HR11 := Lib.hid hr
           clear hr HR10))
      go_ret
      unfold PutPost
      rw [HPC.out]
      refine ⟨rfl, w6.heap.size, HWL.out, ?_⟩
      rw [if_neg (by decide), if_neg (by decide)]
      refine Run.to (X := X.put e.key w6.heap.size v c) (m := m) (l := l) (t := t) ?_ (HPG.out _ HNB.out).2
      rw [HPUT.out]
      exact HR11.out
set_option maxHeartbeats 8000000 in
theorem sPutOld1 (h : SpH w s F X) (tx : List UInt8) (v c : Nat) (e : KE) (hv : VOk w F v tx false c) (hk : e.key.length ≤ 1048576) (hx : tx.length ≤ 1048576) (hcst : c ≤ 2199023255552) (hm : X.mass + 5 ≤ 8388608) (ho : (X.met e.key).1 = some e) (hd0 : 0 < e.dl) :
    Calls Tryz.prog 24 #[.pointer (some ⟨s, 0, none⟩), .string ⟨e.key.toArray⟩, .pointer (some ⟨v, 0, none⟩)] w (PutPost s F X e.key tx v false c w) := by
  have hmx : Tryz.prog.follows .mixedOrders = true := by kernel_rfl
  have hc : putCode e.key tx = 0 := by unfold putCode; rw [if_neg (by omega)]
  have HPC := Lib.hid hc
  have HT := Lib.hid (hv.text w (Chg.refl _ _))
  have HV := Lib.hid hv
  obtain ⟨m, l, t, hr⟩ := h.run
  have HR := Lib.hid hr
  have HG := Lib.hid h.good
  obtain ⟨hf, hp, h3⟩ := met_some_inv ho
  have he := (find_some hf).1
  have HPG : Hid (∀ b, (∀ x ∈ X.ents, x.b ≠ b) → SpGood (X.put0 ⟨e.key, b, v, c, 0, 0⟩) ∧ SpGood (X.put e.key b v c)) := Lib.hid fun b hb => by
    have := put_good h.good e.key b v c hk hcst (by rw [h3]; exact hb) hm
    rw [h3] at this
    exact ⟨this.1, this.2.2.1⟩
  have HPUT : Hid (∀ b, X.put e.key b v c = ((X.put0 ⟨e.key, b, v, c, 0, 0⟩).use ⟨e.key, b, v, c, 0, 0⟩).touch e.key) := Lib.hid fun b => by unfold Sp.put; rw [h3]
  have hmx2 : (max (e.key.length : Int) (tx.length : Int) > 1048576) = False := by simp; omega
  have HMET : Hid (∀ W, Run w F W s m l t X.raw → Calls Tryz.prog 43 #[.pointer (some ⟨s, 0, none⟩), .string ⟨e.key.toArray⟩] W fun r w' => r = MetRes (X.met e.key).1 ∧ Run w F w' s m l t (X.met e.key).2.raw) := Lib.hid fun W hW => met_any hW HG.out e.key (by omega)
  rw [ho, h3] at HMET
  have hub := h.good.used
  have hel := h.good.ents
  have hll := lateKv_length X.ents
  have hcu := usedN_drop h.good.keys he
  have hcl := h.good.cost e he
  have hdl := h.good.dl e he
  have HKEY : Hid (e.key.length ≤ 140737488351232) := Lib.hid (by omega)
  have HKM : Hid (X.raw.km.length ≤ 268435456) := Lib.hid (by simp [Sp.raw]; omega)
  have HKL : Hid (X.raw.kl.length ≤ 268435456) := Lib.hid (by simp [Sp.raw]; omega)
  have HTL : Hid (X.raw.touched.length ≤ 1073741824) := Lib.hid (by have := h.good.few; unfold Sp.mass at this; simp [Sp.raw]; omega)
  have HE := Lib.hid he
  have HLE : Hid (∀ x ∈ dropK X.ents e.key, x ∈ X.ents) := Lib.hid fun x hx => (mem_dropK.1 hx).1
  have HC0 : Hid (∀ W, W.cell? ⟨e.b, 1, none⟩ = some (.int .i64 e.cost) → W.cell? ⟨e.b, 3, none⟩ = some (.int .i64 e.dl) → Calls Tryz.prog 53 #[.pointer (some ⟨e.b, 0, none⟩), .string ⟨e.key.toArray⟩] W fun r w' => r = .returned (.int .i64 (e.costs : Nat)) ∧ W = w') := Lib.hid fun W q1 q3 => costs_any W e q1 q3 hk hcl hdl
  obtain ⟨u, hu⟩ : ∃ u, usedN X.ents = u := ⟨_, rfl⟩
  obtain ⟨u1, hu1⟩ : ∃ u, usedN (dropK X.ents e.key) = u := ⟨_, rfl⟩
  obtain ⟨c1, hc1⟩ : ∃ u, e.costs = u := ⟨_, rfl⟩
  rw [hu] at hub
  rw [hu, hu1, hc1] at hcu
  rw [hc1] at HC0
  have HUU := Lib.hid hu
  have hcc : KE.costs ⟨e.key, 0, v, c, 0, 0⟩ ≤ 2199024304192 := KE.costs_le hk hcst
  obtain ⟨c2, hc2⟩ : ∃ c2, KE.costs ⟨e.key, 0, v, c, 0, 0⟩ = c2 := ⟨_, rfl⟩
  have HC2 : Hid (∀ b, KE.costs ⟨e.key, b, v, c, 0, 0⟩ = c2) := Lib.hid fun b => by rw [← hc2]; rfl
  rw [hc2] at hcc
  have HC : Hid (∀ W b, W.cell? ⟨b, 1, none⟩ = some (.int .i64 c) → W.cell? ⟨b, 3, none⟩ = some (.int .i64 0) → Calls Tryz.prog 53 #[.pointer (some ⟨b, 0, none⟩), .string ⟨e.key.toArray⟩] W fun r w' => r = .returned (.int .i64 c2) ∧ W = w') := Lib.hid fun W b q1 q3 => by
    have := costs_any W ⟨e.key, b, v, c, 0, 0⟩ q1 q3 hk hcst (Nat.zero_le _)
    rwa [HC2.out b] at this
  have HSKV : Hid (∀ b, (setKv X.raw.km e.key (.pointer (some ⟨b, 0, none⟩))).Perm ((⟨e.key, b, v, c, 0, 0⟩ :: dropK X.ents e.key : List KE).map KE.kv)) := Lib.hid fun b => setKv_perm h.good.keys ⟨e.key, b, v, c, 0, 0⟩
  have hcle : c1 ≤ u := by omega
  have HEQ : Hid ((u : Int) - (c1 : Int) + (c2 : Int) = (u1 : Nat) + (c2 : Nat)) := Lib.hid (by omega)
  have HRAW : Hid (∀ b, (⟨X.seed, X.most, X.policy, X.samples, X.now, X.uses, (u : Int) - (c1 : Int) + (c2 : Int), (⟨e.key, b, v, c, 0, 0⟩ :: dropK X.ents e.key : List KE).map KE.kv, X.raw.kl.filter (fun p => !(p.1 == e.key)), ⟨e.key, b, v, c, 0, 0⟩ :: dropK X.ents e.key, X.touched, X.steps⟩ : Raw) = (X.put0 ⟨e.key, b, v, c, 0, 0⟩).raw) := Lib.hid fun b => by
    rw [show X.raw.kl.filter (fun p => !(p.1 == e.key)) = lateKv (dropK X.ents e.key) from late_drop _ _]
    exact put_raw ⟨e.key, b, v, c, 0, 0⟩ _ rfl (by rw [HC2.out b, HEQ.out]; show _ = ((usedN (dropK X.ents e.key) : Nat) : Int) + (c2 : Nat); rw [hu1])
  have HU : Hid (∀ W, Run w F W s m l t X.raw → W.cell? ⟨s, 6, none⟩ = some (.int .i64 u) ∧ (∀ j, W.frozen? ⟨s, j, none⟩ = false)) := Lib.hid fun W hr => by
    obtain ⟨sv, -, -, -, -, -, -, c6, -, -, -, -, cf⟩ := hr.cells
    exact ⟨by rw [← hu]; exact c6, cf⟩
  unfold MetRes at HMET
  simp only at HMET ⊢
  have hdg : ((e.dl : Int) > 0) = True := by simp; omega
  have hd1 : 0 < e.dl := hd0
  clear h hr hv hc ho hf hp h3 he hel hll hu hu1 hc1 hc2 hcu hcl hdl hd0
  go_enter Tryz.func24, Tryz.ntmps24
  go_upto_region 12 with (first
    | (go_at_call 50; refine HT.out.mono ?_; rintro r w1 ⟨⟨b, rfl⟩, hb⟩; have HR1 := Lib.hid (HR.out.below hb); clear hb HT)
    | (go_at_call 43; refine (HMET.out _ HR1.out).mono ?_; rintro r w2 ⟨rfl, hr⟩; have HR2 := Lib.hid hr; clear hr HMET)
    | (go_at_call 51; refine (HV.out.empty _ HR2.out.chg).mono ?_; rintro r w3 ⟨rfl, hb⟩
       have h3 := HR2.out.below hb
       obtain ⟨c6, cf⟩ := HU.out _ h3
       obtain ⟨-, e1, -, e3, -⟩ := h3.ent HE.out
       obtain ⟨sv3, -, -, -, -, -, -, -, q7, q8, -⟩ := h3.cells
       have cf6 := cf 6
       have hr4 := (h3.below (Below.refl _ _).drew).setUsed ((u : Int) - (c1 : Int))
       obtain ⟨sv4, -, -, -, -, -, -, -, d7, d8, -⟩ := hr4.cells
       obtain ⟨-, f1, -, f3, -⟩ := hr4.ent HE.out
       have HR4 := Lib.hid hr4
       clear hb HR2 h3 cf hr4))
  go_region_with (go_at_call 53; refine (HC0.out w3.drew e1 e3).mono ?_; rintro r w4 ⟨rfl, rfl⟩)
  all_goals
    go_upto_region 17 with (first
      | (go_at_call 54
         refine (HR4.out.ldel e.key HKEY.out HKL.out).mono ?_
         rintro r w5 ⟨⟨b, rfl⟩, hr⟩
         have HR5 := Lib.hid hr
         clear hr HR4)
      | (go_at_call 55; (refine (HV.out.cost _ HR5.out.chg).mono ?_); (rintro r w6 ⟨rfl, hb⟩)
         have h6 := HR5.out.below hb
         have HNB : Hid (∀ x ∈ X.ents, x.b ≠ w6.heap.size) := Lib.hid fun x hx e => by have := h6.entLt (e := x) hx; omega
         have h7 := h6.newE e.key v c (dropK X.ents e.key) HLE.out
         obtain ⟨sv7, -, -, -, -, -, -, -, g7, -⟩ := h7.cells
         have HR7 := Lib.hid h7
         have HWL : Hid (w.heap.size ≤ w6.heap.size) := Lib.hid h6.chg.size
         clear hb HR5 h6 h7)
      | (go_at_call 56
         refine (HR7.out.set e.key _ HKEY.out HKM.out).mono ?_
         rintro r w8 ⟨⟨b, rfl⟩, hr⟩
         obtain ⟨-, i1, -, i3, -⟩ := hr.ent (e := ⟨e.key, w6.heap.size, v, c, 0, 0⟩) List.mem_cons_self
         obtain ⟨sv8, -, -, -, -, -, -, c6, -, -, -, -, cf⟩ := hr.cells
         have cf6' := cf 6
         have c6' : w8.cell? ⟨s, 6, none⟩ = some (.int .i64 ((u : Int) - (c1 : Int))) := c6
         have HR9 : Hid (Run w F (w8.drew.setCell ⟨s, 6, none⟩ (.int .i64 ((u : Int) - (c1 : Int) + (c2 : Int)))) s m l t (X.put0 ⟨e.key, w6.heap.size, v, c, 0, 0⟩).raw) := Lib.hid (by
           have h9 := ((hr.below (Below.refl _ _).drew).setUsed ((u : Int) - (c1 : Int) + (c2 : Int))).permKm (HSKV.out w6.heap.size)
           rw [← HRAW.out w6.heap.size]
           exact h9)
         clear hr HR7 cf c6))
    go_region_with (go_at_call 53; refine (HC.out w8.drew w6.heap.size i1 i3).mono ?_; rintro r w9 ⟨rfl, rfl⟩)
    all_goals
      go_wp2_with (first
        | (go_at_call 57
           refine (use_any HR9.out (HPG.out _ HNB.out).1 (e := ⟨e.key, w6.heap.size, v, c, 0, 0⟩) List.mem_cons_self).mono ?_
           rintro r w10 ⟨rfl, hr⟩
           have HR10 := Lib.hid hr
           clear hr HR9)
        | (go_at_call 58
           refine (HR10.out.touch e.key HKEY.out HTL.out).mono ?_
           rintro r w11 ⟨rfl, hr⟩
           have HR11 := Lib.hid hr
           clear hr HR10))
      go_ret
      unfold PutPost
      rw [HPC.out]
      refine ⟨rfl, w6.heap.size, HWL.out, ?_⟩
      rw [if_neg (by decide), if_neg (by decide)]
      refine Run.to (X := X.put e.key w6.heap.size v c) (m := m) (l := l) (t := t) ?_ (HPG.out _ HNB.out).2
      rw [HPUT.out]
      exact HR11.out
/-- Put. -/
theorem sPut (h : SpH w s F X) (key tx : List UInt8) (v c : Nat) (emp : Bool) (hv : VOk w F v tx emp c) (hk : key.length ≤ 140737488351232) (hx : tx.length ≤ 140737488351232) (hcst : c ≤ 2199023255552) (hm : X.mass + 5 ≤ 8388608) :
    Calls Tryz.prog 24 #[.pointer (some ⟨s, 0, none⟩), .string ⟨key.toArray⟩, .pointer (some ⟨v, 0, none⟩)] w (PutPost s F X key tx v emp c w) := by
  by_cases hl : 1048576 < key.length ∨ 1048576 < tx.length
  · exact sPutLong h key tx v c emp hv hk hx (if_pos hl)
  · have hk2 : key.length ≤ 1048576 := by omega
    have hx2 : tx.length ≤ 1048576 := by omega
    cases emp with
    | true => exact sPutEmp h key tx v c hv hk2 hx2
    | false =>
      cases ho : (X.met key).1 with
      | none => exact sPutNew h key tx v c hv hk2 hx2 hcst hm ho
      | some e =>
        obtain ⟨hf, -, -⟩ := met_some_inv ho
        obtain ⟨-, rfl⟩ := find_some hf
        by_cases hd : e.dl = 0
        · exact sPutOld0 h tx v c e hv hk2 hx2 hcst hm ho hd
        · exact sPutOld1 h tx v c e hv hk2 hx2 hcst hm ho (by omega)
end
end Go.Proofs.YtelbmphmihjgfaaGreat.DEnt
