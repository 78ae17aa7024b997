/- A keyspace: Get, Stamp, Deadline, Delete, Evict, Tick, Now, Used, Steps. -/
import Derived.Test.YtelbmphmihjgfaaGreatZKsDef
import Derived.Lib.MinMax
set_option linter.unusedVariables false
set_option linter.unusedSimpArgs false
namespace Pantry
open Go Go.RowKit
theorem met_some_inv {X : Sp} {key : List UInt8} {e : KE} (h : (X.met key).1 = some e) : X.find key = some e ∧ e.past X.now = false ∧ (X.met key).2 = X := by
  cases hf : X.find key with
  | none => rw [met_none hf] at h; cases h
  | some e' =>
    cases hp : e'.past X.now with
    | true => rw [met_past hf hp] at h; cases h
    | false =>
      rw [met_some hf hp] at h
      cases h
      exact ⟨rfl, hp, by rw [met_some hf hp]⟩
def Sp.get (X : Sp) (key : List UInt8) : Sp := match (X.met key).1 with | some e => X.use e | none => (X.met key).2
def Sp.del (X : Sp) (key : List UInt8) : Sp := match (X.met key).1 with | some e => X.goes key | none => (X.met key).2
def Sp.evict (X : Sp) (key : List UInt8) : Sp := match (X.met key).1 with | some e => (X.goes key).step 2 key | none => (X.met key).2
def Sp.tick (X : Sp) (now : Int) : Sp := if now < 0 ∨ 9007199254740992 < now then X else { X with now := max X.now now.toNat }
theorem SpGood.del {X : Sp} (h : SpGood X) (key : List UInt8) : SpGood (X.del key) ∧ (X.del key).mass ≤ X.mass := by
  unfold Sp.del
  cases ho : (X.met key).1 with
  | none => exact h.met key
  | some e =>
    obtain ⟨h1, h2, h3⟩ := met_some_inv ho
    obtain ⟨he, rfl⟩ := find_some h1
    obtain ⟨q1, q2⟩ := h.goes he
    exact ⟨q1, by show (X.goes e.key).mass ≤ X.mass; omega⟩
theorem SpGood.get {X : Sp} (h : SpGood X) (key : List UInt8) (hm : X.mass + 1 ≤ 8388608) : SpGood (X.get key) ∧ (X.get key).mass ≤ X.mass + 1 := by
  unfold Sp.get
  cases ho : (X.met key).1 with
  | none =>
    obtain ⟨q1, q2⟩ := h.met key
    exact ⟨q1, by show (X.met key).2.mass ≤ X.mass + 1; omega⟩
  | some e =>
    obtain ⟨h1, h2, h3⟩ := met_some_inv ho
    obtain ⟨he, rfl⟩ := find_some h1
    obtain ⟨q1, q2⟩ := h.use he hm
    exact ⟨q1, by show (X.use e).mass ≤ X.mass + 1; omega⟩
theorem SpGood.evict {X : Sp} (h : SpGood X) (key : List UInt8) : SpGood (X.evict key) ∧ (X.evict key).mass ≤ X.mass := by
  unfold Sp.evict
  cases ho : (X.met key).1 with
  | none => exact h.met key
  | some e =>
    obtain ⟨h1, h2, h3⟩ := met_some_inv ho
    obtain ⟨he, rfl⟩ := find_some h1
    obtain ⟨q1, q2⟩ := h.goes he
    have hf := h.few
    obtain ⟨q3, q4⟩ := q1.step 2 e.key (by omega)
    exact ⟨q3, by show ((X.goes e.key).step 2 e.key).mass ≤ X.mass; omega⟩
theorem SpGood.tick {X : Sp} (h : SpGood X) (now : Int) : SpGood (X.tick now) ∧ (X.tick now).mass = X.mass := by
  unfold Sp.tick
  split
  · exact ⟨h, rfl⟩
  · have := h.now
    exact ⟨⟨h.seed, h.keys, h.blocks, h.few, h.text, h.cost, h.dl, by show max X.now now.toNat ≤ _; omega, h.stamp, h.most, h.policy, h.samples, h.need⟩, rfl⟩
end Pantry
namespace Go.Proofs.YtelbmphmihjgfaaGreat.DEnt
open Go.RowKit Pantry Go.Maps

def VRes : Option KE → Ending
  | some e => .returned (.tuple #[.pointer (some ⟨e.v, 0, none⟩), .bool true])
  | none => .returned (.tuple #[.pointer none, .bool false])
def StRes : Option KE → Ending
  | some e => .returned (.tuple #[.int .u64 e.stamp, .bool true])
  | none => .returned (.tuple #[.int .u64 0, .bool false])
def DlRes : Option KE → Ending
  | some e => if e.dl = 0 then .returned (.tuple #[.int .i64 0, .bool false]) else .returned (.tuple #[.int .i64 e.dl, .bool true])
  | none => .returned (.tuple #[.int .i64 0, .bool false])
section
variable {w : World} {F : Nat → Prop} {s : Nat} {X : Sp}
set_option maxHeartbeats 1000000 in
theorem sGet (h : SpH w s F X) (key : List UInt8) (hk : key.length ≤ 140737488351232) (hm : X.mass + 1 ≤ 8388608) :
    Calls Tryz.prog 62 #[.pointer (some ⟨s, 0, none⟩), .string ⟨key.toArray⟩] w fun r w' => r = VRes (X.met key).1 ∧ SpTo s F (X.get key) w w' := by
  obtain ⟨m, l, t, hr⟩ := h.run
  have HM := Lib.hid (met_any hr h.good key hk)
  have HG := Lib.hid h.good
  have HGG := Lib.hid (h.good.get key hm)
  clear h hr hm
  cases ho : (X.met key).1 with
  | none =>
    rw [ho] at HM
    have hX : X.get key = (X.met key).2 := by unfold Sp.get; rw [ho]
    have HX := Lib.hid hX
    unfold MetRes at HM
    unfold VRes
    simp only at HM ⊢
    clear ho hX
    go_enter Tryz.func62, Tryz.ntmps62
    go_wp2_with (go_at_call 43; refine HM.out.mono ?_; rintro r w1 ⟨rfl, hr⟩; have HR := Lib.hid hr; clear hr HM)
    go_ret2
    refine ⟨rfl, ?_⟩
    rw [HX.out]
    exact HR.out.to (HG.out.met key).1
  | some e =>
    obtain ⟨h1, h2, h3⟩ := met_some_inv ho
    obtain ⟨he, rfl⟩ := find_some h1
    rw [ho, h3] at HM
    have hX : X.get e.key = X.use e := by unfold Sp.get; rw [ho]
    have HX := Lib.hid hX
    have HE := Lib.hid he
    unfold MetRes at HM
    unfold VRes
    simp only at HM ⊢
    clear ho hX h1 h2 h3 he
    go_enter Tryz.func62, Tryz.ntmps62
    go_wp2_with (first
      | (go_at_call 43; refine HM.out.mono ?_; rintro r w1 ⟨rfl, hr⟩
         have HR := Lib.hid hr
         clear hr HM)
      | (go_at_call 57; refine (use_any HR.out HG.out HE.out).mono ?_; rintro r w2 ⟨rfl, hr⟩
         obtain ⟨e0, -⟩ := hr.ent (setK_mem (e := { e with stamp := X.uses + 1 }) HE.out rfl)
         have HR2 := Lib.hid hr
         clear hr HR))
    go_ret2
    refine ⟨rfl, ?_⟩
    rw [HX.out]
    exact HR2.out.to (by rw [← HX.out]; exact HGG.out.1)
set_option maxHeartbeats 1000000 in
theorem sStamp (h : SpH w s F X) (key : List UInt8) (hk : key.length ≤ 140737488351232) :
    Calls Tryz.prog 15 #[.pointer (some ⟨s, 0, none⟩), .string ⟨key.toArray⟩] w fun r w' => r = StRes (X.met key).1 ∧ SpTo s F (X.met key).2 w w' := by
  obtain ⟨m, l, t, hr⟩ := h.run
  have HM := Lib.hid (met_any hr h.good key hk)
  have HGG := Lib.hid (h.good.met key)
  clear h hr
  cases ho : (X.met key).1 with
  | none =>
    rw [ho] at HM
    unfold MetRes at HM
    unfold StRes
    simp only at HM ⊢
    clear ho
    go_enter Tryz.func15, Tryz.ntmps15
    go_wp2_with (go_at_call 43; refine HM.out.mono ?_; rintro r w1 ⟨rfl, hr⟩; have HR := Lib.hid hr; clear hr HM)
    go_ret2
    exact ⟨rfl, HR.out.to HGG.out.1⟩
  | some e =>
    obtain ⟨h1, h2, h3⟩ := met_some_inv ho
    obtain ⟨he, rfl⟩ := find_some h1
    have he3 : e ∈ (X.met e.key).2.ents := by rw [h3]; exact he
    rw [ho] at HM
    have HE := Lib.hid he3
    unfold MetRes at HM
    unfold StRes
    simp only at HM ⊢
    clear ho h1 h2 h3 he he3
    go_enter Tryz.func15, Tryz.ntmps15
    go_wp2_with (go_at_call 43; refine HM.out.mono ?_; rintro r w1 ⟨rfl, hr⟩
                 obtain ⟨-, -, e2, -, -⟩ := hr.ent HE.out
                 have HR := Lib.hid hr
                 clear hr HM)
    go_ret2
    exact ⟨rfl, HR.out.to HGG.out.1⟩
set_option maxHeartbeats 1000000 in
theorem sDeadline (h : SpH w s F X) (key : List UInt8) (hk : key.length ≤ 140737488351232) :
    Calls Tryz.prog 16 #[.pointer (some ⟨s, 0, none⟩), .string ⟨key.toArray⟩] w fun r w' => r = DlRes (X.met key).1 ∧ SpTo s F (X.met key).2 w w' := by
  obtain ⟨m, l, t, hr⟩ := h.run
  have HM := Lib.hid (met_any hr h.good key hk)
  have HGG := Lib.hid (h.good.met key)
  clear h hr
  cases ho : (X.met key).1 with
  | none =>
    rw [ho] at HM
    unfold MetRes at HM
    unfold DlRes
    simp only at HM ⊢
    clear ho
    go_enter Tryz.func16, Tryz.ntmps16
    go_wp2_with (go_at_call 43; refine HM.out.mono ?_; rintro r w1 ⟨rfl, hr⟩; have HR := Lib.hid hr; clear hr HM)
    go_ret2
    exact ⟨rfl, HR.out.to HGG.out.1⟩
  | some e =>
    obtain ⟨h1, h2, h3⟩ := met_some_inv ho
    obtain ⟨he, rfl⟩ := find_some h1
    have he3 : e ∈ (X.met e.key).2.ents := by rw [h3]; exact he
    rw [ho] at HM
    have HE := Lib.hid he3
    unfold MetRes at HM
    unfold DlRes
    simp only at HM ⊢
    clear ho h1 h2 h3 he he3
    by_cases hd : e.dl = 0
    · rw [if_pos hd]
      go_enter Tryz.func16, Tryz.ntmps16
      go_wp2_with (go_at_call 43; refine HM.out.mono ?_; rintro r w1 ⟨rfl, hr⟩
                   obtain ⟨-, -, -, e3, -⟩ := hr.ent HE.out
                   rw [hd] at e3
                   have HR := Lib.hid hr
                   clear hr HM)
      go_ret2
      exact ⟨rfl, HR.out.to HGG.out.1⟩
    · rw [if_neg hd]
      have hdn : ((e.dl : Int) == 0) = false := by rw [beq_eq_false_iff_ne]; omega
      go_enter Tryz.func16, Tryz.ntmps16
      go_wp2_with (go_at_call 43; refine HM.out.mono ?_; rintro r w1 ⟨rfl, hr⟩
                   obtain ⟨-, -, -, e3, -⟩ := hr.ent HE.out
                   have HR := Lib.hid hr
                   clear hr HM)
      go_ret2
      exact ⟨rfl, HR.out.to HGG.out.1⟩
set_option maxHeartbeats 1000000 in
theorem sDelete (h : SpH w s F X) (key : List UInt8) (hk : key.length ≤ 140737488351232) :
    Calls Tryz.prog 63 #[.pointer (some ⟨s, 0, none⟩), .string ⟨key.toArray⟩] w fun r w' => r = .returned (.bool (X.met key).1.isSome) ∧ SpTo s F (X.del key) w w' := by
  obtain ⟨m, l, t, hr⟩ := h.run
  have HM := Lib.hid (met_any hr h.good key hk)
  have HG := Lib.hid h.good
  have HGG := Lib.hid (h.good.del key)
  clear h hr
  cases ho : (X.met key).1 with
  | none =>
    rw [ho] at HM
    have HX := Lib.hid (show X.del key = (X.met key).2 by unfold Sp.del; rw [ho])
    unfold MetRes at HM
    simp only [Option.isSome] at HM ⊢
    clear ho
    go_enter Tryz.func63, Tryz.ntmps63
    go_wp2_with (go_at_call 43; refine HM.out.mono ?_; rintro r w1 ⟨rfl, hr⟩; have HR := Lib.hid hr; clear hr HM)
    go_ret
    refine ⟨rfl, ?_⟩
    rw [HX.out]
    exact HR.out.to (by rw [← HX.out]; exact HGG.out.1)
  | some e =>
    obtain ⟨h1, h2, h3⟩ := met_some_inv ho
    obtain ⟨he, rfl⟩ := find_some h1
    rw [ho, h3] at HM
    have HX := Lib.hid (show X.del e.key = X.goes e.key by unfold Sp.del; rw [ho])
    have HE := Lib.hid he
    unfold MetRes at HM
    simp only [Option.isSome] at HM ⊢
    clear ho h1 h2 h3 he
    go_enter Tryz.func63, Tryz.ntmps63
    go_wp2_with (first
      | (go_at_call 43; refine HM.out.mono ?_; rintro r w1 ⟨rfl, hr⟩
         have HR := Lib.hid hr
         clear hr HM)
      | (go_at_call 52; refine (goes_any HR.out HG.out HE.out).mono ?_; rintro r w2 ⟨rfl, hr⟩
         have HR2 := Lib.hid hr
         clear hr HR))
    go_ret
    refine ⟨rfl, ?_⟩
    rw [HX.out]
    exact HR2.out.to (by rw [← HX.out]; exact HGG.out.1)
set_option maxHeartbeats 1000000 in
theorem sEvict (h : SpH w s F X) (key : List UInt8) (hk : key.length ≤ 140737488351232) :
    Calls Tryz.prog 32 #[.pointer (some ⟨s, 0, none⟩), .string ⟨key.toArray⟩] w fun r w' => r = .returned (.bool (X.met key).1.isSome) ∧ SpTo s F (X.evict key) w w' := by
  have HD := Lib.hid (sDelete h key hk)
  have HG := Lib.hid h.good
  have HGG := Lib.hid (h.good.evict key)
  clear h
  cases ho : (X.met key).1 with
  | none =>
    rw [ho] at HD
    have HX := Lib.hid (show X.evict key = X.del key by unfold Sp.evict Sp.del; rw [ho])
    simp only [Option.isSome] at HD ⊢
    clear ho
    go_enter Tryz.func32, Tryz.ntmps32
    go_wp2_with (go_at_call 63; refine HD.out.mono ?_; rintro r w1 ⟨rfl, hr⟩; have HR := Lib.hid hr; clear hr HD)
    go_ret
    refine ⟨rfl, ?_⟩
    rw [HX.out]
    exact HR.out
  | some e =>
    obtain ⟨h1, h2, h3⟩ := met_some_inv ho
    obtain ⟨he, rfl⟩ := find_some h1
    rw [ho] at HD
    have hfew := HG.out.few
    have hX : X.evict e.key = (X.del e.key).step 2 e.key := by unfold Sp.evict Sp.del; rw [ho]
    have hsl : (X.del e.key).steps.length ≤ 8388608 := by
      have := (HG.out.del e.key).2
      unfold Sp.mass at this hfew; omega
    have HX := Lib.hid hX
    simp only [Option.isSome] at HD ⊢
    clear ho h1 h2 h3 he hX hfew
    go_enter Tryz.func32, Tryz.ntmps32
    go_wp2_with (first
      | (go_at_call 63; refine HD.out.mono ?_; rintro r w1 ⟨rfl, hr⟩
         obtain ⟨⟨F', hF, hsub⟩, hchg⟩ := hr
         obtain ⟨m, l, t, hrun⟩ := hF.run
         obtain ⟨sv, c10, hrow, hadd⟩ := hrun.addStep
         have HSUB := Lib.hid hsub
         have HCHG := Lib.hid hchg
         have HROW := Lib.hid hrow
         have HADD := Lib.hid hadd
         clear hrun hadd hrow HD hF hsub hchg)
      | (at_builtin
         refine wpl_append1 stepI rfl _ _ rfl 0 rfl HROW.out #[.int .i64 2, .string ⟨e.key.toArray⟩] rfl rfl (by intro u hu; simp at hu; rcases hu with rfl | rfl <;> rfl) (by show ((X.del e.key).steps.length + 1) * 24 ≤ _; omega) (Nat.zero_le _) ?_
         intro v' w2 ho hgr _ hk
         obtain ⟨g, cap, rfl⟩ := ownsRow_succ ho
         obtain ⟨d10, f10, hrun⟩ := HADD.out w2 _ (2, e.key) ho hgr hk
         have HRUN := Lib.hid hrun
         clear ho hgr hk hrun HADD HROW))
    go_ret
    refine ⟨rfl, ?_⟩
    rw [HX.out]
    have q : SpTo s F' ((X.del e.key).step 2 e.key) w1 _ := Run.to HRUN.out (by rw [← HX.out]; exact HGG.out.1)
    exact ⟨by
      obtain ⟨F2, q1, q2⟩ := q.ex
      exact ⟨F2, q1, fun k hk => (q2 k hk).elim (HSUB.out k) fun hh => .inr (Nat.le_trans HCHG.out.size hh)⟩, HCHG.out.trans q.chg fun j hj hf => (HSUB.out j hf).resolve_right (by omega)⟩
def tickCode (now : Int) : Int := if now < 0 ∨ 9007199254740992 < now then 3 else 0
set_option maxHeartbeats 1000000 in
theorem sTick (h : SpH w s F X) (now : Int) (hn : -9223372036854775808 ≤ now ∧ now < 9223372036854775808) :
    Calls Tryz.prog 61 #[.pointer (some ⟨s, 0, none⟩), .int .i64 now] w fun r w' => r = .returned (.int .i64 (tickCode now)) ∧ SpTo s F (X.tick now) w w' := by
  obtain ⟨m, l, t, hr⟩ := h.run
  obtain ⟨sv, -, -, -, -, c4, -, -, -, -, -, -, cf⟩ := hr.cells
  have c4' : w.cell? ⟨s, 4, none⟩ = some (.int .i64 X.now) := c4
  have cf4 := cf 4
  have HR := Lib.hid hr
  have HGG := Lib.hid (h.good.tick now)
  have hnow := h.good.now
  by_cases hb : now < 0 ∨ 9007199254740992 < now
  · have HX := Lib.hid (show X.tick now = X from if_pos hb)
    rw [show tickCode now = 3 from if_pos hb]
    clear h hr cf c4 cf4
    rcases hb with hb | hb
    · go_enter Tryz.func61, Tryz.ntmps61
      go_wp2_with fail
      go_ret
      refine ⟨rfl, ?_⟩
      rw [HX.out]
      exact HR.out.to (by rw [← HX.out]; exact HGG.out.1)
    · have hn0 : ¬ now < 0 := by omega
      go_enter Tryz.func61, Tryz.ntmps61
      go_wp2_with fail
      go_ret
      refine ⟨rfl, ?_⟩
      rw [HX.out]
      exact HR.out.to (by rw [← HX.out]; exact HGG.out.1)
  · have HX := Lib.hid (show X.tick now = { X with now := max X.now now.toNat } from if_neg hb)
    rw [show tickCode now = 0 from if_neg hb]
    have hn0 : ¬ now < 0 := by omega
    have hn1 : ¬ 9007199254740992 < now := by omega
    have HR2 : Hid (Run w F (w.setCell ⟨s, 4, none⟩ (.int .i64 (max (X.now : Int) now))) s m l t { X with now := max X.now now.toNat }.raw) := Lib.hid (by
      have := hr.setNow (max X.now now.toNat)
      rw [show ((max X.now now.toNat : Nat) : Int) = max (X.now : Int) now by omega] at this
      exact this)
    clear h hr cf c4 HR hb
    go_enter Tryz.func61, Tryz.ntmps61
    go_wp2_with fail
    go_ret
    refine ⟨rfl, ?_⟩
    rw [HX.out]
    exact HR2.out.to (by rw [← HX.out]; exact HGG.out.1)
theorem sNow (h : SpH w s F X) : Calls Tryz.prog 21 #[.pointer (some ⟨s, 0, none⟩)] w fun r w' => r = .returned (.int .i64 X.now) ∧ w = w' := by
  obtain ⟨m, l, t, hr⟩ := h.run
  obtain ⟨sv, -, -, -, -, c4, -⟩ := hr.cells
  have c4' : w.cell? ⟨s, 4, none⟩ = some (.int .i64 X.now) := c4
  clear h hr c4
  go_enter Tryz.func21, Tryz.ntmps21
  go_wp2_with fail
  go_ret
  exact ⟨rfl, rfl⟩
theorem sUsed (h : SpH w s F X) : Calls Tryz.prog 8 #[.pointer (some ⟨s, 0, none⟩)] w fun r w' => r = .returned (.int .i64 (usedN X.ents : Nat)) ∧ w = w' := by
  obtain ⟨m, l, t, hr⟩ := h.run
  obtain ⟨sv, -, -, -, -, -, -, c6, -⟩ := hr.cells
  have c6' : w.cell? ⟨s, 6, none⟩ = some (.int .i64 (usedN X.ents : Nat)) := c6
  clear h hr c6
  go_enter Tryz.func8, Tryz.ntmps8
  go_wp2_with fail
  go_ret
  exact ⟨rfl, rfl⟩
end
end Go.Proofs.YtelbmphmihjgfaaGreat.DEnt

/- A keyspace: SetDeadline, Persist, Steps, Config. -/
set_option linter.unusedVariables false
set_option linter.unusedSimpArgs false
namespace Pantry
def dlNo (o : Option KE) (at_ : Int) : Bool := match o with | none => true | some _ => decide (9007199254740992 < at_)
def Sp.setDl (X : Sp) (key : List UInt8) (at_ : Int) : Sp :=
  match (X.met key).1 with
  | none => (X.met key).2
  | some e => if 9007199254740992 < at_ then X else if at_ ≤ X.now then X.goes key else X.dl e at_.toNat
def Sp.persist (X : Sp) (key : List UInt8) : Sp :=
  match (X.met key).1 with
  | none => (X.met key).2
  | some e => if e.dl = 0 then X else X.dl e 0
def hasDl (o : Option KE) : Bool := match o with | none => false | some e => !decide (e.dl = 0)
theorem SpGood.setDl {X : Sp} (h : SpGood X) (key : List UInt8) (at_ : Int) (hm : X.mass + 1 ≤ 8388608) : SpGood (X.setDl key at_) ∧ (X.setDl key at_).mass ≤ X.mass + 1 := by
  unfold Sp.setDl
  cases ho : (X.met key).1 with
  | none =>
    obtain ⟨q1, q2⟩ := h.met key
    exact ⟨q1, by show (X.met key).2.mass ≤ X.mass + 1; omega⟩
  | some e =>
    obtain ⟨h1, h2, h3⟩ := met_some_inv ho
    obtain ⟨he, rfl⟩ := find_some h1
    simp only
    split
    · exact ⟨h, by omega⟩
    · split
      · obtain ⟨q1, q2⟩ := h.goes he
        exact ⟨q1, by omega⟩
      · exact h.dlset he _ (by omega) hm
theorem SpGood.persist {X : Sp} (h : SpGood X) (key : List UInt8) (hm : X.mass + 1 ≤ 8388608) : SpGood (X.persist key) ∧ (X.persist key).mass ≤ X.mass + 1 := by
  unfold Sp.persist
  cases ho : (X.met key).1 with
  | none =>
    obtain ⟨q1, q2⟩ := h.met key
    exact ⟨q1, by show (X.met key).2.mass ≤ X.mass + 1; omega⟩
  | some e =>
    obtain ⟨h1, h2, h3⟩ := met_some_inv ho
    obtain ⟨he, rfl⟩ := find_some h1
    simp only
    split
    · exact ⟨h, by omega⟩
    · exact h.dlset he _ (by omega) hm
end Pantry
namespace Go.Proofs.YtelbmphmihjgfaaGreat.DEnt
open Go.RowKit Pantry Go.Maps

section
variable {w0 w w' : World} {F0 : Nat → Prop} {s m l t : Nat} {R : Raw}
theorem Run.permKm (h : Run w0 F0 w s m l t R) {km : List (List UInt8 × Value)} (hp : R.km.Perm km) : Run w0 F0 w s m l t { R with km := km } := by
  obtain ⟨M, L, sv, h1, h2⟩ := h.ex
  exact ⟨⟨M, L, sv, ⟨h1.head, h1.main, h1.mwf, h1.mkv.trans hp, h1.late, h1.lwf, h1.lkv, h1.ents, h1.touch, h1.steps, h1.apart⟩, h2⟩, h.chg⟩
theorem Run.permKl (h : Run w0 F0 w s m l t R) {kl : List (List UInt8 × Value)} (hp : R.kl.Perm kl) : Run w0 F0 w s m l t { R with kl := kl } := by
  obtain ⟨M, L, sv, h1, h2⟩ := h.ex
  exact ⟨⟨M, L, sv, ⟨h1.head, h1.main, h1.mwf, h1.mkv, h1.late, h1.lwf, h1.lkv.trans hp, h1.ents, h1.touch, h1.steps, h1.apart⟩, h2⟩, h.chg⟩
end
section
variable {w : World} {F : Nat → Prop} {s : Nat} {X : Sp}
theorem dl_raw {X : Sp} (hg : SpGood X) {e : KE} (he : e ∈ X.ents) (at_ : Nat) (ha : 0 < at_) :
    (⟨X.seed, X.most, X.policy, X.samples, X.now, X.uses, ((usedN X.ents : Nat) : Int) - (e.costs : Nat) + ((KE.costs { e with dl := at_ } : Nat) : Int), X.raw.km, lateKv (setK X.ents { e with dl := at_ }), setK X.ents { e with dl := at_ }, addT X.touched e.key, X.steps⟩ : Raw) = (X.dl e at_).raw := by
  have h1 := usedN_set (e := { e with dl := at_ }) hg.keys he rfl
  simp only [Sp.raw, Sp.dl, Raw.mk.injEq, true_and, and_true]
  exact ⟨by omega, (kv_set (e' := { e with dl := at_ }) hg.keys he rfl rfl).symm⟩
set_option maxHeartbeats 4000000 in
theorem sSetDl (h : SpH w s F X) (key : List UInt8) (at_ : Int) (hk : key.length ≤ 140737488351232) (hn : -9223372036854775808 ≤ at_ ∧ at_ < 9223372036854775808) (hm : X.mass + 1 ≤ 8388608) :
    Calls Tryz.prog 60 #[.pointer (some ⟨s, 0, none⟩), .string ⟨key.toArray⟩, .int .i64 at_] w fun r w' => r = .returned (.bool (!dlNo (X.met key).1 at_)) ∧ SpTo s F (X.setDl key at_) w w' := by
  have hmx : Tryz.prog.follows .mixedOrders = true := by kernel_rfl
  obtain ⟨m, l, t, hr⟩ := h.run
  have HM := Lib.hid (met_any hr h.good key hk)
  have HG := Lib.hid h.good
  have HGG := Lib.hid (h.good.setDl key at_ hm)
  have HGM := Lib.hid (h.good.met key)
  have hmm := hm
  clear h hr hm
  cases ho : (X.met key).1 with
  | none =>
    rw [ho] at HM
    have HX := Lib.hid (show X.setDl key at_ = (X.met key).2 by unfold Sp.setDl; rw [ho])
    rw [show dlNo none at_ = true from rfl]
    unfold MetRes at HM
    simp only at HM ⊢
    clear ho
    go_enter Tryz.func60, Tryz.ntmps60
    go_wp2_with (go_at_call 43; refine HM.out.mono ?_; rintro r w1 ⟨rfl, hr⟩; have HR := Lib.hid hr; clear hr HM)
    go_ret
    refine ⟨rfl, ?_⟩
    rw [HX.out]
    exact HR.out.to HGM.out.1
  | some e =>
    obtain ⟨h1, h2, h3⟩ := met_some_inv ho
    obtain ⟨he, rfl⟩ := find_some h1
    rw [ho, h3] at HM
    have hX : X.setDl e.key at_ = if 9007199254740992 < at_ then X else if at_ ≤ X.now then X.goes e.key else X.dl e at_.toNat := by unfold Sp.setDl; rw [ho]
    have HE := Lib.hid he
    rw [show dlNo (some e) at_ = decide (9007199254740992 < at_) from rfl]
    unfold MetRes at HM
    simp only at HM ⊢
    by_cases hb : 9007199254740992 < at_
    · rw [if_pos hb] at hX
      have HX := Lib.hid hX
      rw [decide_eq_true hb]
      clear ho h1 h2 h3 he hX
      go_enter Tryz.func60, Tryz.ntmps60
      go_wp2_with (go_at_call 43; refine HM.out.mono ?_; rintro r w1 ⟨rfl, hr⟩; have HR := Lib.hid hr; clear hr HM)
      go_ret
      refine ⟨rfl, ?_⟩
      rw [HX.out]
      exact HR.out.to HG.out
    · rw [if_neg hb] at hX
      rw [decide_eq_false hb]
      by_cases hc : at_ ≤ X.now
      · rw [if_pos hc] at hX
        have HX := Lib.hid hX
        clear ho h1 h2 h3 he hX
        go_enter Tryz.func60, Tryz.ntmps60
        go_wp2_with (first
          | (go_at_call 43; refine HM.out.mono ?_; rintro r w1 ⟨rfl, hr⟩
             obtain ⟨sv, -, -, -, -, c4, -⟩ := hr.cells
             have c4' : w1.cell? ⟨s, 4, none⟩ = some (.int .i64 X.now) := c4
             have HR := Lib.hid hr
             clear hr HM c4)
          | (go_at_call 52; refine (goes_any HR.out HG.out HE.out).mono ?_; rintro r w2 ⟨rfl, hr⟩
             have HR2 := Lib.hid hr
             clear hr HR))
        go_ret
        refine ⟨rfl, ?_⟩
        rw [HX.out]
        exact HR2.out.to (by rw [← HX.out]; exact HGG.out.1)
      · rw [if_neg hc] at hX
        obtain ⟨a, rfl⟩ : ∃ a : Nat, at_ = a := ⟨at_.toNat, by omega⟩
        rw [Int.toNat_natCast] at hX
        have hX2 := hX
        have HX := Lib.hid hX
        have hapos : 0 < a := by omega
        have HRAW := Lib.hid (dl_raw HG.out he a hapos)
        have hkl := HG.out.text e he
        have hcl := HG.out.cost e he
        have hdl := HG.out.dl e he
        have hub := HG.out.used
        have hcu := usedN_drop HG.out.keys he
        have hel := HG.out.ents
        have hll := lateKv_length X.ents
        have HC : Hid (∀ W, W.cell? ⟨e.b, 1, none⟩ = some (.int .i64 e.cost) → W.cell? ⟨e.b, 3, none⟩ = some (.int .i64 e.dl) → Calls Tryz.prog 53 #[.pointer (some ⟨e.b, 0, none⟩), .string ⟨e.key.toArray⟩] W fun r w' => r = .returned (.int .i64 (e.costs : Nat)) ∧ W = w') := Lib.hid fun W q1 q3 => costs_any W e q1 q3 hkl hcl hdl
        have HC2 : Hid (∀ W, W.cell? ⟨e.b, 1, none⟩ = some (.int .i64 e.cost) → W.cell? ⟨e.b, 3, none⟩ = some (.int .i64 a) → Calls Tryz.prog 53 #[.pointer (some ⟨e.b, 0, none⟩), .string ⟨e.key.toArray⟩] W fun r w' => r = .returned (.int .i64 (KE.costs { e with dl := a } : Nat)) ∧ W = w') := Lib.hid fun W q1 q3 => costs_any W { e with dl := a } q1 q3 hkl hcl (by show a ≤ _; omega)
        have hc2 : KE.costs { e with dl := a } ≤ 2199024304192 := KE.costs_le hkl hcl
        have HKEY : Hid (e.key.length ≤ 140737488351232) := Lib.hid (by omega)
        have HKL : Hid (X.raw.kl.length ≤ 268435456) := Lib.hid (by simp [Sp.raw]; omega)
        have HTL : Hid (X.raw.touched.length ≤ 1073741824) := Lib.hid (by have := HG.out.few; unfold Sp.mass at this; simp [Sp.raw]; omega)
        obtain ⟨u, hu⟩ : ∃ u, usedN X.ents = u := ⟨_, rfl⟩
        obtain ⟨c, hcc⟩ : ∃ u, e.costs = u := ⟨_, rfl⟩
        obtain ⟨c2, hcc2⟩ : ∃ u, KE.costs { e with dl := a } = u := ⟨_, rfl⟩
        have HU : Hid (∀ W, Run w F W s m l t X.raw → W.cell? ⟨s, 6, none⟩ = some (.int .i64 u) ∧ (∀ j, W.frozen? ⟨s, j, none⟩ = false) ∧ W.cell? ⟨s, 8, none⟩ = some (.pointer (some ⟨l, 0, none⟩)) ∧ W.cell? ⟨s, 4, none⟩ = some (.int .i64 X.now)) := Lib.hid fun W hr => by
          obtain ⟨sv, -, -, -, -, c4, -, c6, -, c8, -, -, cf⟩ := hr.cells
          exact ⟨by rw [← hu]; exact c6, cf, c8, c4⟩
        rw [hu] at HRAW hub hcu
        rw [hcc] at HRAW hcu HC
        rw [hcc2] at HRAW HC2 hc2
        have hcu2 : c ≤ u := by omega
        have HR4N : Hid (∀ W, Run w F W s m l t X.raw → Run w F (((W.setCell ⟨s, 6, none⟩ (.int .i64 ((u : Int) - (c : Int)))).setCell ⟨e.b, 3, none⟩ (.int .i64 a)).drew) s m l t { X.raw with used := (u : Int) - (c : Int), ents := setK X.ents { e with dl := a } }) := Lib.hid fun W hr =>
          ((hr.setUsed ((u : Int) - (c : Int))).setEnt (e' := { e with dl := a }) HE.out rfl rfl HG.out.blocks HG.out.keys (j := 3) (u := .int .i64 a) rfl).below (Below.refl _ _).drew
        have HSK := Lib.hid (setKv_late (e' := { e with dl := a }) HG.out.keys HE.out rfl rfl hapos)
        clear ho h1 h2 h3 he hX hX2 hu hcc hcc2 hcu hkl hcl hdl hel hll
        go_enter Tryz.func60, Tryz.ntmps60
        go_upto_region 7 with (first
          | (go_at_call 43; refine HM.out.mono ?_; rintro r w1 ⟨rfl, hr⟩
             obtain ⟨c6, cf, c8, c4⟩ := HU.out _ hr
             obtain ⟨-, e1, -, e3, ef⟩ := hr.ent HE.out
             have cf6 := cf 6
             have ef3 := ef 3
             have HR := Lib.hid hr
             have HR4 := Lib.hid (HR4N.out _ (hr.below (Below.refl _ _).drew))
             have hm4 := HR4.out.ent (setK_mem (e := { e with dl := a }) HE.out rfl)
             obtain ⟨-, g1, -, g3, -⟩ := hm4
             have HR5 := Lib.hid (HR4.out.setUsed ((u : Int) - (c : Int) + (c2 : Int)))
             obtain ⟨sv5, -, -, -, -, -, -, -, -, g8, -⟩ := HR5.out.cells
             have G1 := Lib.hid g1
             have G3 := Lib.hid g3
             clear hr HM HU HR4N cf ef g1 g3))
        go_region_with (go_at_call 53; refine (HC.out w1.drew e1 e3).mono ?_; rintro r w2 ⟨rfl, rfl⟩)
        all_goals
          go_wp2_with fail
          go_region_with (go_at_call 53; refine (HC2.out _ G1.out G3.out).mono ?_; rintro r w2 ⟨rfl, rfl⟩)
          all_goals
            go_wp2_with (first
              | (go_at_call 56
                 refine (HR5.out.lset e.key e.b HKEY.out HKL.out).mono ?_
                 rintro r w6 ⟨⟨b, rfl⟩, hr⟩
                 have HR6 := Lib.hid hr
                 clear hr HR5)
              | (go_at_call 58
                 refine (HR6.out.touch e.key HKEY.out HTL.out).mono ?_
                 rintro r w7 ⟨rfl, hr⟩
                 have HR7 := Lib.hid (hr.permKl HSK.out)
                 clear hr HR6))
            go_ret
            refine ⟨rfl, ?_⟩
            rw [HX.out]
            refine Run.to (X := X.dl e a) (m := m) (l := l) (t := t) ?_ (by rw [← HX.out]; exact HGG.out.1)
            rw [← HRAW.out]
            exact HR7.out
theorem persist_raw {X : Sp} (hg : SpGood X) {e : KE} (he : e ∈ X.ents) (hd : 0 < e.dl) :
    (⟨X.seed, X.most, X.policy, X.samples, X.now, X.uses, ((usedN X.ents : Nat) : Int) - 16, X.raw.km, X.raw.kl.filter (fun p => !(p.1 == e.key)), setK X.ents { e with dl := 0 }, addT X.touched e.key, X.steps⟩ : Raw) = (X.dl e 0).raw := by
  have h1 := usedN_set (e := { e with dl := 0 }) hg.keys he rfl
  have h2 : e.costs = KE.costs { e with dl := 0 } + 16 := by simp [KE.costs, hd]
  simp only [Sp.raw, Sp.dl, Raw.mk.injEq, true_and, and_true]
  exact ⟨by omega, (kv_set (e' := { e with dl := 0 }) hg.keys he rfl rfl).symm, by rw [late_drop]; exact (late_set0 X.ents { e with dl := 0 } rfl).symm⟩
set_option maxHeartbeats 4000000 in
theorem sPersist (h : SpH w s F X) (key : List UInt8) (hk : key.length ≤ 140737488351232) (hm : X.mass + 1 ≤ 8388608) :
    Calls Tryz.prog 64 #[.pointer (some ⟨s, 0, none⟩), .string ⟨key.toArray⟩] w fun r w' => r = .returned (.bool (hasDl (X.met key).1)) ∧ SpTo s F (X.persist key) w w' := by
  obtain ⟨m, l, t, hr⟩ := h.run
  have HM := Lib.hid (met_any hr h.good key hk)
  have HG := Lib.hid h.good
  have HGG := Lib.hid (h.good.persist key hm)
  have HGM := Lib.hid (h.good.met key)
  clear h hr hm
  cases ho : (X.met key).1 with
  | none =>
    rw [ho] at HM
    have HX := Lib.hid (show X.persist key = (X.met key).2 by unfold Sp.persist; rw [ho])
    rw [show hasDl none = false from rfl]
    unfold MetRes at HM
    simp only at HM ⊢
    clear ho
    go_enter Tryz.func64, Tryz.ntmps64
    go_wp2_with (go_at_call 43; refine HM.out.mono ?_; rintro r w1 ⟨rfl, hr⟩; have HR := Lib.hid hr; clear hr HM)
    go_ret
    refine ⟨rfl, ?_⟩
    rw [HX.out]
    exact HR.out.to HGM.out.1
  | some e =>
    obtain ⟨h1, h2, h3⟩ := met_some_inv ho
    obtain ⟨he, rfl⟩ := find_some h1
    rw [ho, h3] at HM
    have hX : X.persist e.key = if e.dl = 0 then X else X.dl e 0 := by unfold Sp.persist; rw [ho]
    have HE := Lib.hid he
    rw [show hasDl (some e) = !decide (e.dl = 0) from rfl]
    unfold MetRes at HM
    simp only at HM ⊢
    by_cases hd : e.dl = 0
    · rw [if_pos hd] at hX
      have HX := Lib.hid hX
      rw [decide_eq_true hd]
      clear ho h1 h2 h3 he hX
      go_enter Tryz.func64, Tryz.ntmps64
      go_wp2_with (go_at_call 43; refine HM.out.mono ?_; rintro r w1 ⟨rfl, hr⟩
                   obtain ⟨-, -, -, e3, -⟩ := hr.ent HE.out
                   rw [hd] at e3
                   have HR := Lib.hid hr
                   clear hr HM)
      go_ret
      refine ⟨rfl, ?_⟩
      rw [HX.out]
      exact HR.out.to HG.out
    · rw [if_neg hd] at hX
      have HX := Lib.hid hX
      rw [decide_eq_false hd]
      have hdn : ((e.dl : Int) == 0) = false := by rw [beq_eq_false_iff_ne]; omega
      have HRAW := Lib.hid (persist_raw HG.out he (by omega))
      have hub := HG.out.used
      have hcu := usedN_drop HG.out.keys he
      have hc16 : 48 ≤ e.costs := by unfold KE.costs; omega
      have hel := HG.out.ents
      have hll := lateKv_length X.ents
      have HKEY : Hid (e.key.length ≤ 140737488351232) := Lib.hid hk
      have HKL : Hid (X.raw.kl.length ≤ 268435456) := Lib.hid (by simp [Sp.raw]; omega)
      have HTL : Hid (X.raw.touched.length ≤ 1073741824) := Lib.hid (by have := HG.out.few; unfold Sp.mass at this; simp [Sp.raw]; omega)
      obtain ⟨u, hu⟩ : ∃ u, usedN X.ents = u := ⟨_, rfl⟩
      rw [hu] at HRAW hub hcu
      have hu16 : 16 ≤ u := by omega
      have HU : Hid (∀ W, Run w F W s m l t { X.raw with kl := X.raw.kl.filter (fun p => !(p.1 == e.key)) } → W.cell? ⟨s, 6, none⟩ = some (.int .i64 u) ∧ W.cell? ⟨e.b, 3, none⟩ = some (.int .i64 e.dl) ∧ (∀ j, W.frozen? ⟨s, j, none⟩ = false) ∧ (∀ j, W.frozen? ⟨e.b, j, none⟩ = false) ∧ Run w F ((W.setCell ⟨e.b, 3, none⟩ (.int .i64 0)).setCell ⟨s, 6, none⟩ (.int .i64 ((u : Int) - 16))) s m l t { X.raw with kl := X.raw.kl.filter (fun p => !(p.1 == e.key)), used := (u : Int) - 16, ents := setK X.ents { e with dl := 0 } }) := Lib.hid fun W hr => by
        obtain ⟨sv, -, -, -, -, -, -, c6, -, -, -, -, cf⟩ := hr.cells
        obtain ⟨-, -, -, e3, ef⟩ := hr.ent HE.out
        exact ⟨by rw [← hu]; exact c6, e3, cf, ef, (hr.setEnt (e' := { e with dl := 0 }) HE.out rfl rfl HG.out.blocks HG.out.keys (j := 3) (u := .int .i64 0) rfl).setUsed _⟩
      clear ho h1 h2 h3 he hX hu hcu hel hll
      go_enter Tryz.func64, Tryz.ntmps64
      go_wp2_with (first
        | (go_at_call 43; refine HM.out.mono ?_; rintro r w1 ⟨rfl, hr⟩
           obtain ⟨-, -, -, e3, -⟩ := hr.ent HE.out
           obtain ⟨sv, -, -, -, -, -, -, -, -, c8, -⟩ := hr.cells
           have HR := Lib.hid hr
           clear hr HM)
        | (go_at_call 54
           refine (HR.out.ldel e.key HKEY.out HKL.out).mono ?_
           rintro r w2 ⟨⟨b, rfl⟩, hr⟩
           obtain ⟨d6, d3, df, def_, hrun⟩ := HU.out _ hr
           have df6 := df 6
           have def3 := def_ 3
           have HR3 := Lib.hid hrun
           clear hr HR hrun HU df def_)
        | (go_at_call 58
           refine (HR3.out.touch e.key HKEY.out HTL.out).mono ?_
           rintro r w7 ⟨rfl, hr⟩
           have HR7 := Lib.hid hr
           clear hr HR3))
      go_ret
      refine ⟨rfl, ?_⟩
      rw [HX.out]
      refine Run.to (X := X.dl e 0) (m := m) (l := l) (t := t) ?_ (by rw [← HX.out]; exact HGG.out.1)
      rw [← HRAW.out]
      exact HR7.out
def Sp.quietS (X : Sp) : Sp := { X with steps := [] }
def StepsPost (s : Nat) (F : Nat → Prop) (X : Sp) (w : World) (r : Ending) (w' : World) : Prop :=
  ∃ v, r = .returned v ∧ w'.ownsRow 0 46 2 v X.steps.length (stCells X.steps) ∧ ∃ F', SpH w' s F' { X with steps := [] } ∧ (∀ k, F' k → F k) ∧ (∀ k, v.ownBlock = some k → F k ∧ ¬ F' k) ∧ Chg F w w'
theorem sSteps (h : SpH w s F X) : Calls Tryz.prog 12 #[.pointer (some ⟨s, 0, none⟩)] w (StepsPost s F X w) := by
  obtain ⟨m, l, t, M, L, sv, h1, h2⟩ := h.ex
  obtain ⟨-, -, -, -, -, -, -, -, -, -, c10, cf⟩ := head11 h1.head
  have cf10 := cf 10
  obtain ⟨-, -, hN⟩ := h1.newRow (w' := w) (sv' := .slice none 0 0) (st' := []) (Chg.refl _ _) (World.ownsRow_nil _ _ _ _)
  have hP : StepsPost s F X w (.returned sv) (w.setCell ⟨s, 10, none⟩ (.slice none 0 0)) := by
    have hs : Chg (fun k => k = s) w (w.setCell ⟨s, 10, none⟩ (.slice none 0 0)) := Chg.setCell (S := fun k => k = s) (Chg.refl _ w) (p := ⟨s, 10, none⟩) (fun _ => rfl) _
    refine ⟨sv, rfl, hs.ownsRow h1.steps fun k hk e => ?_, SFoot s m l t M L (.slice none 0 0) X.ents, ⟨⟨m, l, t, M, L, .slice none 0 0, hN, fun k => Iff.rfl⟩, ⟨h.good.seed, h.good.keys, h.good.blocks, ?_, h.good.text, h.good.cost, h.good.dl, h.good.now, h.good.stamp, h.good.most, h.good.policy, h.good.samples, h.good.need⟩⟩, fun k hk => ?_, fun k hk => ⟨(h2 k).2 (.inr (.inr (.inr (.inr (.inr hk))))), fun hf => ?_⟩, hs.mono fun k _ e => (h2 k).2 (.inl e)⟩
    · subst e
      obtain ⟨c, hc⟩ := h1.row hk
      exact types_ne hc h1.head (by decide) rfl
    · have := h.good.few
      unfold Sp.mass at this ⊢
      simp only [List.length_nil]; omega
    · rcases hk with hk | hk | hk | hk | hk | hk
      · exact (h2 k).2 (.inl hk)
      · exact (h2 k).2 (.inr (.inl hk))
      · exact (h2 k).2 (.inr (.inr (.inl hk)))
      · exact (h2 k).2 (.inr (.inr (.inr (.inl hk))))
      · exact (h2 k).2 (.inr (.inr (.inr (.inr (.inl hk)))))
      · cases hk
    · obtain ⟨c, hc⟩ := h1.row hk
      rcases hf with rfl | hf | hf | ⟨e, he, rfl⟩ | rfl | hf
      · exact types_ne hc h1.head (by decide) rfl
      · exact h1.main.not_foot hc (by decide) hf
      · exact h1.late.not_foot hc (by decide) hf
      · exact types_ne hc (h1.ents e he) (by decide) rfl
      · obtain ⟨es, c', ht⟩ := h1.touch.obj
        rw [ht] at hc; cases hc
      · cases hf
  have HP := Lib.hid hP
  obtain ⟨a, c, rfl, -⟩ := ownsRow_rd h1.steps (stCells_one _)
  clear h h1 h2 hN hP cf
  go_enter Tryz.func12, Tryz.ntmps12
  go_wp2_with fail
  go_ret
  exact HP.out
theorem sConfig (h : SpH w s F X) : Calls Tryz.prog 27 #[.pointer (some ⟨s, 0, none⟩)] w fun r w' => r = .returned (.agg #[.int .u64 X.seed, .int .i64 X.most, .int .i64 X.policy, .int .i64 X.samples]) ∧ Below w.heap.size w w' := by
  have hal : Below w.heap.size w (w.alloc (.cells #[.int .u64 0, .int .i64 0, .int .i64 0, .int .i64 0] 24)) := (Below.refl _ _).alloc (Nat.le_refl _) _
  obtain ⟨m, l, t, hr⟩ := (h.below hal).run
  obtain ⟨sv, c0, c1, c2, c3, -⟩ := hr.cells
  have c0' : (w.alloc (.cells #[.int .u64 0, .int .i64 0, .int .i64 0, .int .i64 0] 24)).cell? ⟨s, 0, none⟩ = some (.int .u64 X.seed) := c0
  have c1' : (w.alloc (.cells #[.int .u64 0, .int .i64 0, .int .i64 0, .int .i64 0] 24)).cell? ⟨s, 1, none⟩ = some (.int .i64 X.most) := c1
  have c2' : (w.alloc (.cells #[.int .u64 0, .int .i64 0, .int .i64 0, .int .i64 0] 24)).cell? ⟨s, 2, none⟩ = some (.int .i64 X.policy) := c2
  have c3' : (w.alloc (.cells #[.int .u64 0, .int .i64 0, .int .i64 0, .int .i64 0] 24)).cell? ⟨s, 3, none⟩ = some (.int .i64 X.samples) := c3
  have HAL := Lib.hid hal
  clear h hr c0 c1 c2 c3 hal
  go_enter Tryz.func27, Tryz.ntmps27
  go_wp2_with fail
  have hn := heap_alloc_new w (.cells #[.int .u64 X.seed, .int .i64 X.most, .int .i64 X.policy, .int .i64 X.samples] 24)
  have g0 := cell_of_row _ _ 0 _ _ _ hn
  have g1 := cell_of_row _ _ 1 _ _ _ hn
  have g2 := cell_of_row _ _ 2 _ _ _ hn
  have g3 := cell_of_row _ _ 3 _ _ _ hn
  simp only [List.getElem?_toArray, List.getElem?_cons_zero, List.getElem?_cons_succ] at g0 g1 g2 g3
  refine bodyPost_ret (v := .agg #[.int .u64 X.seed, .int .i64 X.most, .int .i64 X.policy, .int .i64 X.samples]) ?_ rfl ⟨rfl, (Below.refl _ _).alloc (Nat.le_refl _) _⟩
  simp [results, Tryz.f27, go_sem, g0, g1, g2, g3]
end
end Go.Proofs.YtelbmphmihjgfaaGreat.DEnt
