/- size; prepared: the steps that do not evict. -/
import Derived.Test.YtelbmphmihjgfaaGreatZEwCfg
import Derived.Test.YtelbmphmihjgfaaGreatZKsOps2
import Derived.Test.YtelbmphmihjgfaaGreatZOpenCfg
import Derived.Deep.Slices
set_option linter.unusedVariables false
set_option linter.unusedSimpArgs false
namespace Pantry
theorem setK_vc {X : Sp} {e e' : KE} (he : e ∈ X.ents) (hv : e'.v = e.v) (hc : e'.cost = e.cost) : ∀ x ∈ setK X.ents e', ∃ y ∈ X.ents, y.v = x.v ∧ y.cost = x.cost := by
  intro x hx
  rcases mem_setK hx with rfl | ⟨h1, -⟩
  · exact ⟨e, he, hv.symm, hc.symm⟩
  · exact ⟨x, h1, rfl, rfl⟩
/-- What is stored holds values that were stored before. -/
def Sp.From (Y X : Sp) : Prop := (∀ x ∈ Y.ents, ∃ y ∈ X.ents, y.v = x.v ∧ y.cost = x.cost) ∧ Y.most = X.most ∧ Y.policy = X.policy ∧ Y.samples = X.samples ∧ Y.seed = X.seed
theorem Sp.From.refl (X : Sp) : X.From X := ⟨fun x hx => ⟨x, hx, rfl, rfl⟩, rfl, rfl, rfl, rfl⟩
theorem Sp.From.trans {X Y Z : Sp} (h : Z.From Y) (k : Y.From X) : Z.From X := by
  refine ⟨fun x hx => ?_, h.2.1.trans k.2.1, h.2.2.1.trans k.2.2.1, h.2.2.2.1.trans k.2.2.2.1, h.2.2.2.2.trans k.2.2.2.2⟩
  obtain ⟨y, hy, e1, e2⟩ := h.1 x hx
  obtain ⟨z, hz, e3, e4⟩ := k.1 y hy
  exact ⟨z, hz, e3.trans e1, e4.trans e2⟩
theorem From.goes (X : Sp) (k : List UInt8) : (X.goes k).From X := ⟨fun x hx => ⟨x, (mem_dropK.1 hx).1, rfl, rfl⟩, rfl, rfl, rfl, rfl⟩
theorem From.met (X : Sp) (k : List UInt8) : (X.met k).2.From X := by
  unfold Sp.met
  split
  · exact .refl X
  · split
    · exact From.goes X k
    · exact .refl X
theorem From.use {X : Sp} {e : KE} (he : e ∈ X.ents) : (X.use e).From X := ⟨setK_vc he rfl rfl, rfl, rfl, rfl, rfl⟩
theorem From.get (X : Sp) (k : List UInt8) : (X.get k).From X := by
  unfold Sp.get
  cases h : (X.met k).1 with
  | none => exact From.met X k
  | some e =>
    obtain ⟨h1, -, -⟩ := met_some_inv h
    exact From.use (find_some h1).1
theorem From.del (X : Sp) (k : List UInt8) : (X.del k).From X := by
  unfold Sp.del
  cases h : (X.met k).1 with
  | none => exact From.met X k
  | some e => exact From.goes X k
theorem From.tick (X : Sp) (n : Int) : (X.tick n).From X := by
  unfold Sp.tick
  split
  · exact .refl X
  · exact ⟨fun x hx => ⟨x, hx, rfl, rfl⟩, rfl, rfl, rfl, rfl⟩
theorem From.dl {X : Sp} {e : KE} (he : e ∈ X.ents) (n : Nat) : (X.dl e n).From X := ⟨setK_vc he rfl rfl, rfl, rfl, rfl, rfl⟩
end Pantry
namespace Pantry
theorem From.setDl (X : Sp) (k : List UInt8) (n : Int) : (X.setDl k n).From X := by
  unfold Sp.setDl
  cases h : (X.met k).1 with
  | none => exact From.met X k
  | some e =>
    obtain ⟨h1, -, -⟩ := met_some_inv h
    dsimp only
    split
    · exact .refl X
    · split
      · exact From.goes X k
      · exact From.dl (find_some h1).1 _
theorem From.persist (X : Sp) (k : List UInt8) : (X.persist k).From X := by
  unfold Sp.persist
  cases h : (X.met k).1 with
  | none => exact From.met X k
  | some e =>
    obtain ⟨h1, -, -⟩ := met_some_inv h
    dsimp only
    split
    · exact .refl X
    · exact From.dl (find_some h1).1 _
theorem put_from (X : Sp) (k : List UInt8) (b v c : Nat) : (∀ x ∈ (X.put k b v c).ents, (x.v = v ∧ x.cost = c) ∨ ∃ y ∈ X.ents, y.v = x.v ∧ y.cost = x.cost) ∧ (X.put k b v c).most = X.most ∧ (X.put k b v c).policy = X.policy ∧ (X.put k b v c).samples = X.samples ∧ (X.put k b v c).seed = X.seed := by
  have hm := From.met X k
  refine ⟨fun x hx => ?_, hm.2.1, hm.2.2.1, hm.2.2.2.1, hm.2.2.2.2⟩
  have hx' : x ∈ setK ((⟨k, b, v, c, 0, 0⟩ : KE) :: dropK (X.met k).2.ents k) { (⟨k, b, v, c, 0, 0⟩ : KE) with stamp := (X.met k).2.uses + 1 } := hx
  rcases mem_setK hx' with rfl | ⟨h1, hne⟩
  · exact .inl ⟨rfl, rfl⟩
  · rcases List.mem_cons.1 h1 with rfl | h1
    · exact absurd rfl hne
    · exact .inr (hm.1 x (mem_dropK.1 h1).1)
end Pantry
namespace Pantry
theorem put_mass {X : Sp} (h : SpGood X) (k : List UInt8) (b v c : Nat) : (X.put k b v c).mass ≤ X.mass + 5 := by
  have h1 := (h.met k).2
  have h2 := addT_length (X.met k).2.touched k
  have h3 : (dropK (X.met k).2.ents k).length ≤ (X.met k).2.ents.length := List.length_filter_le _ _
  have e : (X.put k b v c).mass = 3 * (setK ((⟨k, b, v, c, 0, 0⟩ : KE) :: dropK (X.met k).2.ents k) { (⟨k, b, v, c, 0, 0⟩ : KE) with stamp := (X.met k).2.uses + 1 }).length + (X.met k).2.steps.length + (addT (X.met k).2.touched k).length + ((X.met k).2.uses + 1) := rfl
  rw [e, setK_length, List.length_cons]
  unfold Sp.mass at h1 ⊢
  omega
end Pantry
namespace Go.Proofs.YtelbmphmihjgfaaGreat.DEnt
open Go.RowKit Pantry Go.Maps Go.Sort

/-- A space that holds texts of noughts. -/
structure SpX (w : World) (s : Nat) (F : Nat → Prop) (X : Sp) : Prop where
  sp : SpH w s F X
  tx : ∀ e ∈ X.ents, TxAt w e.v (zeros e.cost) ∧ e.cost < 200
/-- .. behind calls. -/
structure SpXTo (s : Nat) (F : Nat → Prop) (Y : Sp) (w w' : World) : Prop where
  ex : ∃ F', SpX w' s F' Y ∧ ∀ k, F' k → F k ∨ w.heap.size ≤ k
  chg : Chg F w w'
section
variable {w w' : World} {s : Nat} {F : Nat → Prop} {X Y : Sp}
theorem SpX.no (h : SpH w s F X) {v : Nat} {t : List UInt8} (hv : TxAt w v t) : ¬ F v := h.not_foot hv (by decide)
theorem SpX.below (h : SpX w s F X) (hb : Below w.heap.size w w') : SpX w' s F X := ⟨h.sp.below hb, fun e he => ⟨(hb.block _ (block_lt (h.tx e he).1)).trans (h.tx e he).1, (h.tx e he).2⟩⟩
theorem SpX.to (h : SpX w s F X) (ht : SpTo s F Y w w') (hf : ∀ x ∈ Y.ents, ∃ y ∈ X.ents, y.v = x.v ∧ y.cost = x.cost) : SpXTo s F Y w w' := by
  obtain ⟨⟨F', h1, h2⟩, hc⟩ := ht
  refine ⟨⟨F', ⟨h1, fun x hx => ?_⟩, h2⟩, hc⟩
  obtain ⟨y, hy, e1, e2⟩ := hf x hx
  obtain ⟨t1, t2⟩ := h.tx y hy
  rw [← e1, ← e2]
  exact ⟨hc.heap t1 (SpX.no h.sp t1), t2⟩
theorem SpXTo.pre {A : World} (hb : Below w.heap.size w A) (h : SpXTo s F Y A w') : SpXTo s F Y w w' := by
  obtain ⟨⟨F', h1, h2⟩, hc⟩ := h
  exact ⟨⟨F', h1, fun k hk => (h2 k hk).imp id (Nat.le_trans hb.size)⟩, (Chg.of_below (S := F) hb).trans hc fun j _ e => e⟩
theorem SpXTo.after {w2 : World} (h : SpXTo s F Y w w') (hb : Below w'.heap.size w' w2) : SpXTo s F Y w w2 := by
  obtain ⟨⟨F', h1, h2⟩, hc⟩ := h
  exact ⟨⟨F', h1.below hb, h2⟩, hc.trans (T := fun _ => False) (Chg.of_below hb) fun _ _ e => e.elim⟩
theorem SpXTo.start (h : SpX w s F X) : SpXTo s F X w w := ⟨⟨F, h, fun _ hk => .inl hk⟩, Chg.refl _ _⟩
theorem SpXTo.trans {w2 : World} {Z : Sp} (h : SpXTo s F Y w w') (k : ∀ F', SpX w' s F' Y → SpXTo s F' Z w' w2) : SpXTo s F Z w w2 := by
  obtain ⟨⟨F', h1, h2⟩, hc⟩ := h
  obtain ⟨⟨F'', g1, g2⟩, gc⟩ := k F' h1
  refine ⟨⟨F'', g1, fun j hj => ?_⟩, hc.trans gc fun j hj e => (h2 j e).resolve_right (by omega)⟩
  rcases g2 j hj with e | e
  · exact h2 j e
  · exact .inr (Nat.le_trans hc.size e)
/-- How the config stays. -/
def Sp.SameCfg (Y X : Sp) : Prop := Y.most = X.most ∧ Y.policy = X.policy ∧ Y.samples = X.samples ∧ Y.seed = X.seed
def PrepPost (s : Nat) (F : Nat → Prop) (X : Sp) (w : World) (e : Ending) (w' : World) : Prop := e = .returned (.tuple #[]) ∧ ∃ Y, SpXTo s F Y w w' ∧ Y.mass ≤ X.mass + 5 ∧ Sp.SameCfg Y X
theorem size_any (w : World) (x : Int) (hx : isI64 x) : Calls Tryz.prog 59 #[.int .i64 x] w fun e w' => (∃ k : Nat, k < 200 ∧ e = .returned (.int .i64 k)) ∧ w = w' := by
  unfold isI64 at hx
  obtain ⟨q, hq, h1, h2⟩ : ∃ q : Int, x.tmod 200 = q ∧ -200 < q ∧ q < 200 := ⟨_, rfl, by have := Int.lt_tmod_of_pos x (b := 200) (by decide); omega, Int.tmod_lt_of_pos x (by decide)⟩
  by_cases h0 : q < 0
  · have hn : x < 0 := by
      by_cases h : x < 0
      · exact h
      · have := Int.tmod_nonneg 200 (show 0 ≤ x by omega); omega
    obtain ⟨k, hk⟩ : ∃ k : Nat, -q = k := ⟨(-q).toNat, by omega⟩
    have HK : Hid (k < 200) := Lib.hid (by omega)
    have HQ : Hid (-q = (k : Int)) := Lib.hid hk
    clear hk
    go_enter Tryz.func59, Tryz.ntmps59
    go_wp2_with fail
    go_ret
    exact ⟨⟨k, HK.out, ret_i64 HQ.out⟩, rfl⟩
  · obtain ⟨k, rfl⟩ := Int.eq_ofNat_of_zero_le (show 0 ≤ q by omega)
    have HK : Hid (k < 200) := Lib.hid (by omega)
    go_enter Tryz.func59, Tryz.ntmps59
    go_wp2_with fail
    go_ret
    exact ⟨⟨k, HK.out, rfl⟩, rfl⟩
theorem run_text_u8d (w : World) (o : Obj) (n : Nat) : (convert 72 9 (.slice (some ⟨w.heap.size + 1, 0, none⟩) n n)).run Tryz.prog ((w.alloc o).alloc (.cells (b8 (zeros n)).toArray 5)).drew = .ok (.string ⟨(zeros n).toArray⟩) ((w.alloc o).alloc (.cells (b8 (zeros n)).toArray 5)).drew :=
  run_string_of Tryz.underlying72 Tryz.underlying5 Tryz.underlying9 (zeros_length n) (by
    have := (Rd.new (w.alloc o) (b8 (zeros n)).toArray 5 (0, 0) (fun u hu => b8_one _ u (by simpa using hu))).drew
    simpa using this)
/-- A step of the script. -/
structure LSt where
  act : Int
  key : List UInt8
  n : Int
structure LSt.Ok (x : LSt) : Prop where
  act : isI64 x.act
  key : x.key.length ≤ 140737488351232
  n : isI64 x.n
def LSt.cells (x : LSt) : List Value := [.int .i64 x.act, .string ⟨x.key.toArray⟩, .int .i64 x.n]
theorem prep_of (h : SpX w s F X) (ht : SpTo s F Y w w') (hf : Y.From X) (hm : Y.mass ≤ X.mass + 5) : PrepPost s F X w (.returned (.tuple #[])) w' :=
  ⟨rfl, Y, h.to ht hf.1, hm, hf.2⟩
theorem prep_put (h : SpX w s F X) (key : List UInt8) (k v : Nat) (hk : k < 200) (hv : TxAt w v (zeros k)) (hl : key.length ≤ 140737488351232) (hm : X.mass + 5 ≤ 8388608) :
    Calls Tryz.prog 24 #[.pointer (some ⟨s, 0, none⟩), .string ⟨key.toArray⟩, .pointer (some ⟨v, 0, none⟩)] w fun e w' => (∃ c, e = .returned (.int .i64 c)) ∧ ∃ Y, SpXTo s F Y w w' ∧ Y.mass ≤ X.mass + 5 ∧ Sp.SameCfg Y X := by
  have hz := zeros_length k
  refine (putText h.sp key (zeros k) v hv (SpX.no h.sp hv) hl (by omega) hm).mono ?_
  rintro e w' ⟨rfl, b, hb, ht⟩
  refine ⟨⟨_, rfl⟩, ?_⟩
  by_cases hc : putCode key (zeros k) = 2
  · rw [if_pos hc] at ht
    exact ⟨X, h.to ht (Sp.From.refl X).1, by omega, (Sp.From.refl X).2⟩
  · rw [if_neg hc, if_neg (by decide), hz] at ht
    obtain ⟨g1, g2⟩ := put_from X key b v k
    refine ⟨_, ?_, ?_, g2⟩
    · obtain ⟨⟨F', q1, q2⟩, hc2⟩ := ht
      refine ⟨⟨F', ⟨q1, fun x hx => ?_⟩, q2⟩, hc2⟩
      rcases g1 x hx with ⟨e1, e2⟩ | ⟨y, hy, e1, e2⟩
      · rw [e1, e2]
        exact ⟨hc2.heap hv (SpX.no h.sp hv), hk⟩
      · obtain ⟨t1, t2⟩ := h.tx y hy
        rw [← e1, ← e2]
        exact ⟨hc2.heap t1 (SpX.no h.sp t1), t2⟩
    · exact put_mass h.sp.good key b v k
set_option maxRecDepth 100000 in
set_option maxHeartbeats 4000000 in
theorem prep_any (h : SpX w s F X) (x : LSt) (hx : x.Ok) (hm : X.mass + 5 ≤ 8388608) : Calls Tryz.prog 26 #[.pointer (some ⟨s, 0, none⟩), .agg #[.int .i64 x.act, .string ⟨x.key.toArray⟩, .int .i64 x.n]] w (PrepPost s F X w) := by
  have hmx : Tryz.prog.follows .mixedOrders = true := by kernel_rfl
  obtain ⟨act, key, n⟩ := x
  obtain ⟨-, hk, hn⟩ := hx
  simp only at *
  have hnew := fun o => (Below.refl w.heap.size w).alloc (Nat.le_refl _) o
  have hn2 : -9223372036854775808 ≤ n ∧ n < 9223372036854775808 := by unfold isI64 at hn; omega
  have HDL : Hid (∀ o, Calls Tryz.prog 60 #[.pointer (some ⟨s, 0, none⟩), .string ⟨key.toArray⟩, .int .i64 n] (w.alloc o) fun e w' => (∃ b, e = .returned (.bool b)) ∧ PrepPost s F X w (.returned (.tuple #[])) w') := Lib.hid fun o => by
    have h2 := h.below (hnew o)
    refine (sSetDl h2.sp key n hk hn2 (by omega)).mono ?_
    rintro e w' ⟨rfl, ht⟩
    refine ⟨⟨_, rfl⟩, rfl, _, SpXTo.pre (hnew o) (h2.to ht (From.setDl X key n).1), ?_, (From.setDl X key n).2⟩
    have := (h.sp.good.setDl key n (by omega)).2
    omega
  have HTK : Hid (∀ o, Calls Tryz.prog 61 #[.pointer (some ⟨s, 0, none⟩), .int .i64 n] (w.alloc o) fun e w' => (∃ b, e = .returned (.int .i64 b)) ∧ PrepPost s F X w (.returned (.tuple #[])) w') := Lib.hid fun o => by
    have h2 := h.below (hnew o)
    refine (sTick h2.sp n hn2).mono ?_
    rintro e w' ⟨rfl, ht⟩
    refine ⟨⟨_, rfl⟩, rfl, _, SpXTo.pre (hnew o) (h2.to ht (From.tick X n).1), ?_, (From.tick X n).2⟩
    have := (h.sp.good.tick n).2
    omega
  have HGT : Hid (∀ o, Calls Tryz.prog 62 #[.pointer (some ⟨s, 0, none⟩), .string ⟨key.toArray⟩] (w.alloc o) fun e w' => (∃ v b, e = .returned (.tuple #[v, .bool b])) ∧ PrepPost s F X w (.returned (.tuple #[])) w') := Lib.hid fun o => by
    have h2 := h.below (hnew o)
    refine (sGet h2.sp key hk (by omega)).mono ?_
    rintro e w' ⟨rfl, ht⟩
    refine ⟨by cases (X.met key).1 <;> exact ⟨_, _, rfl⟩, rfl, _, SpXTo.pre (hnew o) (h2.to ht (From.get X key).1), ?_, (From.get X key).2⟩
    have := (h.sp.good.get key (by omega)).2
    omega
  have HDE : Hid (∀ o, Calls Tryz.prog 63 #[.pointer (some ⟨s, 0, none⟩), .string ⟨key.toArray⟩] (w.alloc o) fun e w' => (∃ b, e = .returned (.bool b)) ∧ PrepPost s F X w (.returned (.tuple #[])) w') := Lib.hid fun o => by
    have h2 := h.below (hnew o)
    refine (sDelete h2.sp key hk).mono ?_
    rintro e w' ⟨rfl, ht⟩
    refine ⟨⟨_, rfl⟩, rfl, _, SpXTo.pre (hnew o) (h2.to ht (From.del X key).1), ?_, (From.del X key).2⟩
    have := (h.sp.good.del key).2
    omega
  have HPE : Hid (∀ o, Calls Tryz.prog 64 #[.pointer (some ⟨s, 0, none⟩), .string ⟨key.toArray⟩] (w.alloc o) fun e w' => (∃ b, e = .returned (.bool b)) ∧ PrepPost s F X w (.returned (.tuple #[])) w') := Lib.hid fun o => by
    have h2 := h.below (hnew o)
    refine (sPersist h2.sp key hk (by omega)).mono ?_
    rintro e w' ⟨rfl, ht⟩
    refine ⟨⟨_, rfl⟩, rfl, _, SpXTo.pre (hnew o) (h2.to ht (From.persist X key).1), ?_, (From.persist X key).2⟩
    have := (h.sp.good.persist key (by omega)).2
    omega
  have HNO : Hid (∀ o, PrepPost s F X w (.returned (.tuple #[])) (w.alloc o)) := Lib.hid fun o => ⟨rfl, X, (SpXTo.start h).after (hnew o), by omega, (Sp.From.refl X).2⟩
  have HSZ := Lib.hid fun W => size_any W n hn
  have HPU : Hid (∀ o o' k, k < 200 → Calls Tryz.prog 24 #[.pointer (some ⟨s, 0, none⟩), .string ⟨key.toArray⟩, .pointer (some ⟨w.heap.size + 1 + 1, 0, none⟩)] (((w.alloc o).alloc o').alloc (.cells #[.iface 126 (.string ⟨(zeros k).toArray⟩)] 130)).drew fun e w' => (∃ c, e = .returned (.int .i64 c)) ∧ PrepPost s F X w (.returned (.tuple #[])) w') := Lib.hid fun o o' k hk2 => by
    obtain ⟨W, hW⟩ : ∃ W, (((w.alloc o).alloc o').alloc (.cells #[.iface 126 (.string ⟨(zeros k).toArray⟩)] 130)).drew = W := ⟨_, rfl⟩
    have hb3 : Below w.heap.size w W := by rw [← hW]; exact (((hnew o).alloc (by simp) o').alloc (by simp; omega) _).drew
    have ht : TxAt W (w.heap.size + 1 + 1) (zeros k) := by
      rw [← hW]
      have := heap_alloc_new ((w.alloc o).alloc o') (.cells #[.iface 126 (.string ⟨(zeros k).toArray⟩)] 130)
      simp only [World.size_alloc] at this
      exact this
    rw [hW]
    refine (prep_put (h.below hb3) key k _ hk2 ht hk hm).mono ?_
    rintro e w' ⟨he, Y, h1, h2, h3⟩
    exact ⟨he, rfl, Y, h1.pre hb3, h2, h3⟩
  have hmk : ∀ (W : World) (k : Nat), k < 200 → (Instr.makeSlice 72 (.int .i64 k) (.int .i64 k)).run Tryz.prog W = .ok (.slice (some ⟨W.heap.size, 0, none⟩) k k) (W.alloc (.cells (b8 (zeros k)).toArray 5)) := fun W k hk => run_make_u8 W k (by omega)
  have hcv := run_text_u8
  have HMK := Lib.hid hmk
  have HCV := Lib.hid hcv
  have HNEW := Lib.hid hnew
  clear h hm hnew hn2 hk hn hmk hcv
  have hcase : act = 0 ∨ act = 1 ∨ act = 2 ∨ act = 3 ∨ act = 4 ∨ act = 5 ∨ (¬ act = 0 ∧ ¬ act = 1 ∧ ¬ act = 2 ∧ ¬ act = 3 ∧ ¬ act = 4 ∧ ¬ act = 5) := by omega
  rcases hcase with rfl | rfl | rfl | rfl | rfl | rfl | ⟨n0, n1, n2, n3, n4, n5⟩
  · go_enter Tryz.func26, Tryz.ntmps26
    go_wp2_with fail
    go_region_with
      (first
        | (go_at_call 59; refine (HSZ.out _).mono ?_; rintro e w1 ⟨⟨k, hk, rfl⟩, rfl⟩
           have hm1 := fun W => HMK.out W k hk
           have hc1 := run_text_u8d w (.cells #[.int .i64 0, .string ⟨key.toArray⟩, .int .i64 n] 75) k
           have HKL := Lib.hid hk
           clear hk)
        | (go_at_call 25; refine (mkText _ (zeros k)).mono ?_; rintro e w3 ⟨rfl, rfl⟩)
        | (go_at_call 24; refine (HPU.out _ _ k HKL.out).mono ?_; rintro e w' ⟨⟨c, rfl⟩, hp⟩; have HPP := Lib.hid hp; clear hp))
    all_goals
      go_wp2_with fail
      refine bodyPost_end (results_none rfl _ _ _) rfl ?_
      exact HPP.out
  · go_enter Tryz.func26, Tryz.ntmps26
    go_wp2_with (go_at_call 60; refine (HDL.out _).mono ?_; rintro e w' ⟨⟨b, rfl⟩, hp⟩; have HPP := Lib.hid hp; clear hp)
    refine bodyPost_end (results_none rfl _ _ _) rfl ?_
    exact HPP.out
  · go_enter Tryz.func26, Tryz.ntmps26
    go_wp2_with (go_at_call 61; refine (HTK.out _).mono ?_; rintro e w' ⟨⟨b, rfl⟩, hp⟩; have HPP := Lib.hid hp; clear hp)
    refine bodyPost_end (results_none rfl _ _ _) rfl ?_
    exact HPP.out
  · go_enter Tryz.func26, Tryz.ntmps26
    go_wp2_with (go_at_call 62; refine (HGT.out _).mono ?_; rintro e w' ⟨⟨v, b, rfl⟩, hp⟩; have HPP := Lib.hid hp; clear hp)
    refine bodyPost_end (results_none rfl _ _ _) rfl ?_
    exact HPP.out
  · go_enter Tryz.func26, Tryz.ntmps26
    go_wp2_with (go_at_call 63; refine (HDE.out _).mono ?_; rintro e w' ⟨⟨b, rfl⟩, hp⟩; have HPP := Lib.hid hp; clear hp)
    refine bodyPost_end (results_none rfl _ _ _) rfl ?_
    exact HPP.out
  · go_enter Tryz.func26, Tryz.ntmps26
    go_wp2_with (go_at_call 64; refine (HPE.out _).mono ?_; rintro e w' ⟨⟨b, rfl⟩, hp⟩; have HPP := Lib.hid hp; clear hp)
    refine bodyPost_end (results_none rfl _ _ _) rfl ?_
    exact HPP.out
  · have e0 : (act == 0) = false := by simpa using n0
    have e1 : (act == 1) = false := by simpa using n1
    have e2 : (act == 2) = false := by simpa using n2
    have e3 : (act == 3) = false := by simpa using n3
    have e4 : (act == 4) = false := by simpa using n4
    have e5 : (act == 5) = false := by simpa using n5
    go_enter Tryz.func26, Tryz.ntmps26
    go_wp2_with fail
    refine bodyPost_end (results_none rfl _ _ _) rfl ?_
    exact HNO.out _
end
end Go.Proofs.YtelbmphmihjgfaaGreat.DEnt

/- built: a space behind a script. -/
set_option linter.unusedVariables false
set_option linter.unusedSimpArgs false
namespace Go.Proofs.YtelbmphmihjgfaaGreat.DEnt
open Go.RowKit Pantry Go.Maps Go.Sort Go.ChangeShapes Go.WideShapes Go.ChangeAt Go.Deep

section
variable {P : Program}
/-- A whole struct is loaded, wherever its cells lie. -/
theorem run_loadVar_at (w : World) (p : Addr) (ty : TypeId) (cs : List Value) (d : TypeDesc) (hc : ∀ j u, cs[j]? = some u → w.cell? (p.add j) = some u)
    (hu : P.underlying ty = some d) (hd : (match d with | .struct _ | .array _ _ => true | _ => false) = true) (hi : (P.info? ty).map (·.size) = some cs.length) :
    (loadVar ty p).run P w = .ok (.agg cs.toArray) w := by
  have hl := run_loadCells_list (P := P) w p cs hc
  cases hq : P.info? ty with
  | none => simp [hq] at hi
  | some i =>
    have hs : i.size = cs.length := by simpa [hq] using hi
    have hagg : (isAgg ty).run P w = .ok true w := by
      unfold isAgg
      rw [Sem.run_bind, run_underlying hu w]
      cases d <;> simp_all
    simp [loadVar, Sem.run_bind, hagg, Go.sizeOf, Go.typeInfo, hq, hs, hl]
theorem wpl_load_at {ops : Array Oper} {rest : List Oper} {o : Oper} {a : Act} {w : World} {Q : Exit → Act → World → Prop} (hgd : o.guard = none) (ty : TypeId) (x : Operand) (ho : o.op = .load ty x)
    (p : Addr) (hx : a.eval x = .pointer (some p)) (cs : List Value) (d : TypeDesc) (hc : ∀ j u, cs[j]? = some u → w.cell? (p.add j) = some u)
    (hu : P.underlying ty = some d) (hd : (match d with | .struct _ | .array _ _ => true | _ => false) = true) (hi : (P.info? ty).map (·.size) = some cs.length)
    (h : wpList P ops Q rest (a.put o.dst (.agg cs.toArray)) w) : wpList P ops Q (o :: rest) a w := by
  refine wpList_plain hgd fun K hK => ?_
  unfold Oper.wp execOp
  simp only [ho, hx, Instr.loadAt, Instr.sureAddr, Sem.run_bind, Sem.run_pure, Result.andThen_ok, run_loadVar_at w p ty cs d hc hu hd hi]
  exact hK _ _ h
end
instance : Inhabited LSt := ⟨⟨0, [], 0⟩⟩
/-- The script, where it lies. -/
structure ScrAt (w : World) (a : Option Addr) (n : Nat) (l : List LSt) : Prop where
  len : l.length = n
  few : n ≤ 8796093021952
  ok : ∀ x ∈ l, x.Ok
  cell : ∀ (k : Nat) (x : LSt), l[k]? = some x → ∃ y, a = some y ∧ ∀ (j : Nat) (u : Value), x.cells[j]? = some u → w.cell? (y.add (k * 3 + j)) = some u
theorem ScrAt.below {w w' : World} {a : Option Addr} {n : Nat} {l : List LSt} (h : ScrAt w a n l) (hb : Below w.heap.size w w') : ScrAt w' a n l :=
  ⟨h.len, h.few, h.ok, fun k x hk => by
    obtain ⟨y, hy, hc⟩ := h.cell k x hk
    exact ⟨y, hy, fun j u hj => (hb.cell (World.block_lt_of_cell? w _ (hc j u hj))).trans (hc j u hj)⟩⟩
section
variable {H : Type} {enc : TypeId × Value → H} {w : World}
set_option maxRecDepth 100000 in
theorem open_step {n base : Nat} {spare : Nat → Bool} {held : Bool} {cs : List Value} {x : DataW H × List MemPlace} (h : DataW.trod enc Tryz.prog w base spare held n 75 cs = some x) (hw : ∀ m ∈ x.1.weights Tryz.prog 75, m ≤ reachBytes) : ∃ o : LSt, cs = o.cells ∧ o.Ok := by
  obtain ⟨xs, m, _, rfl, hl, hlen, hf⟩ := DataW.trod_struct Tryz.underlying75 h
  rw [show Tryz.prog.cellsOf 75 = 3 by kernel_rfl] at hl
  match cs, hl with
  | [c0, c1, c2], _ =>
    match xs, hlen with
    | [y0, y1, y2], _ =>
      have e0 : Tryz.prog.cellsOf 3 = 1 := by kernel_rfl
      have e1 : Tryz.prog.cellsOf 9 = 1 := by kernel_rfl
      have e2 : Tryz.prog.cellsOf 2 = 1 := by kernel_rfl
      have h0 := hf 0 _ rfl
      have h1 := hf 1 _ rfl
      have h2 := hf 2 _ rfl
      simp [e0, e1, e2] at h0 h1 h2
      obtain ⟨k0, q0, r0, w0⟩ := DataW.trod_int Tryz.underlying3 h0
      obtain ⟨k1, q1, r1, w1⟩ := DataW.trod_string Tryz.underlying9 h1
      obtain ⟨k2, q2, r2, w2⟩ := DataW.trod_int Tryz.underlying2 h2
      refine ⟨⟨k0, k1.data.toList, k2⟩, by simp_all [LSt.cells], wf_i64 w0, ?_, wf_i64 w2⟩
      have := hw k1.data.toList.length (by simp_all [DataW.weights, DataW.weightsEach, Tryz.underlying75])
      unfold reachBytes at this
      exact this
theorem open_steps {fuel base : Nat} {spare : Nat → Bool} {held : Bool} {a : Option Addr} {len cap : Nat} {d : DataW H} {p : List MemPlace}
    (h : DataW.trod enc Tryz.prog w base spare held fuel 26 [.slice a len cap] = some (d, p)) (hw : ∀ n ∈ d.weights Tryz.prog 26, n ≤ reachBytes) : (∃ l : List LSt, ScrAt w a len l) ∧ (len = 0 ∨ ∃ es rs, d = .slice es rs ∧ es.length = len) := by
  have hc7 : Tryz.prog.cellsOf 75 = 3 := by kernel_rfl
  rcases open_slice Tryz.underlying26 h with ⟨hcs, hx⟩ | ⟨a', len', cap', m, n, D, Pl, hcs, hb, hl, hm, hmm, hx, hall⟩
  · simp at hcs
    obtain ⟨rfl, rfl, rfl⟩ := hcs
    exact ⟨⟨[], rfl, by omega, by simp, by simp⟩, .inl rfl⟩
  · simp at hcs
    obtain ⟨rfl, rfl, rfl⟩ := hcs
    simp only [Prod.mk.injEq] at hx
    obtain ⟨rfl, -⟩ := hx
    have hlm : len ≤ m := by rw [hmm]; split <;> omega
    have h32 := hw (((List.range len).map D).length * 32 + ((List.range (m - len)).map fun j => D (len + j)).length * 32) (by
      have e32 : Tryz.prog.bytesOf 75 = 32 := by kernel_rfl
      simp only [DataW.weights, Tryz.underlying26, e32, Nat.add_mul]
      exact List.mem_cons_self)
    unfold reachBytes at h32
    simp only [List.length_map, List.length_range] at h32
    refine ⟨?_, .inr ⟨_, _, rfl, by simp⟩⟩
    obtain ⟨O, hO⟩ := choose_lt (α := LSt) (p := fun i o => (∀ (j : Nat) (u : Value), o.cells[j]? = some u → w.cell? (a'.add (i * 3 + j)) = some u) ∧ o.Ok) (n := len) (fun i hi => by
      obtain ⟨cs', h1, h2⟩ := hall i (by omega)
      rw [hc7] at h1
      obtain ⟨_, h7, hcells⟩ := World.cells?_some h1
      obtain ⟨o, rfl, ok⟩ := open_step h2 (fun q hq => hw q (by
        simp only [DataW.weights, Tryz.underlying26]
        refine List.mem_cons_of_mem _ (List.mem_append.2 (Or.inl ?_))
        exact weightsAll_mem _ (D i) (List.mem_map.2 ⟨i, List.mem_range.2 hi, rfl⟩) hq))
      refine ⟨o, fun j u hj => ?_, ok⟩
      have hj7 : j < 3 := by have := (List.getElem?_eq_some_iff.1 hj).1; simpa [LSt.cells] using this
      rw [← Addr.add_add, hcells j hj7, hj])
    refine ⟨(List.range len).map O, by simp, by omega, ?_, ?_⟩
    · intro o ho
      obtain ⟨i, hi, rfl⟩ := List.mem_map.1 ho
      exact (hO i (List.mem_range.1 hi)).2
    · intro k o hk
      simp only [List.getElem?_map, Option.map_eq_some_iff] at hk
      obtain ⟨i, hi, rfl⟩ := hk
      obtain ⟨hlt, rfl⟩ := List.getElem?_eq_some_iff.1 hi
      simp only [List.getElem_range] at *
      exact ⟨a', rfl, (hO k (by simpa using hlt)).1⟩
end
theorem SpXTo.step {w w' : World} {s : Nat} {F : Nat → Prop} {Y : Sp} (h : SpXTo s F Y w w') : ∃ F', SpX w' s F' Y ∧ ∀ Z w2, SpXTo s F' Z w' w2 → SpXTo s F Z w w2 := by
  obtain ⟨⟨F', h1, h2⟩, hc⟩ := h
  refine ⟨F', h1, fun Z w2 k => ?_⟩
  obtain ⟨⟨F'', g1, g2⟩, gc⟩ := k
  refine ⟨⟨F'', g1, fun j hj => ?_⟩, hc.trans gc fun j hj e => (h2 j e).resolve_right (by omega)⟩
  rcases g2 j hj with e | e
  · exact h2 j e
  · exact .inr (Nat.le_trans hc.size e)
theorem xSteps {w w1 : World} {s : Nat} {F : Nat → Prop} {Y : Sp} (h : SpXTo s F Y w1 w) : Calls Tryz.prog 12 #[.pointer (some ⟨s, 0, none⟩)] w fun e w' => (∃ v, e = .returned v) ∧ SpXTo s F { Y with steps := [] } w1 w' := by
  obtain ⟨F', h1, hj⟩ := h.step
  refine (sSteps h1.sp).mono ?_
  rintro e w' ⟨v, rfl, -, F2, h2, h3, -, hc⟩
  exact ⟨⟨v, rfl⟩, hj _ _ (h1.to ⟨⟨F2, h2, fun k hk => .inl (h3 k hk)⟩, hc⟩ fun x hx => ⟨x, hx, rfl, rfl⟩)⟩
theorem xTouched {w w1 : World} {s : Nat} {F : Nat → Prop} {Y : Sp} (h : SpXTo s F Y w1 w) : Calls Tryz.prog 22 #[.pointer (some ⟨s, 0, none⟩)] w fun e w' => (∃ v, e = .returned v) ∧ SpXTo s F { Y with touched := [] } w1 w' := by
  obtain ⟨F', h1, hj⟩ := h.step
  refine (sTouched h1.sp).mono ?_
  rintro e w' ⟨v, l, rfl, -, -, -, ht⟩
  exact ⟨⟨v, rfl⟩, hj _ _ (h1.to ht fun x hx => ⟨x, hx, rfl, rfl⟩)⟩
def BuiltPost (c : Cfg) (n : Nat) (w : World) (e : Ending) (w' : World) : Prop :=
  Below w.heap.size w w' ∧ ((c.bad ∧ e = .returned (.pointer none)) ∨ (¬ c.bad ∧ ∃ s F X, e = .returned (.pointer (some ⟨s, 0, none⟩)) ∧ SpX w' s F X ∧ X.steps = [] ∧ X.touched = [] ∧ Sp.SameCfg X c.sp ∧ X.mass ≤ 5 * n ∧ ∀ k, F k → w.heap.size ≤ k))
theorem lstInfo : (Tryz.prog.info? 75).map (·.size) = some 3 := by kernel_rfl
set_option maxRecDepth 100000 in
set_option maxHeartbeats 4000000 in
theorem built_any (w : World) (c : Cfg) (hc : CfgOk c) (a : Option Addr) (n k : Nat) (l : List LSt) (hl : ScrAt w a n l) (hn : n ≤ 1048576) : Calls Tryz.prog 6 #[Cfg.val c, .slice a n k] w (BuiltPost c n w) := by
  have hnew := fun o => (Below.refl w.heap.size w).alloc (Nat.le_refl _) o
  have hms := hc.most
  unfold isI64 at hms
  by_cases hb : c.bad
  · have HK : Hid (∀ W, Calls Tryz.prog 23 #[.agg #[.int .u64 c.seed, .int .i64 c.most, .int .i64 c.policy, .int .i64 c.samples]] W fun e w' => Below W.heap.size W w' ∧ e = .returned (.tuple #[.pointer none, .int .i64 3])) := Lib.hid fun W => by
      refine (kNew_bad W c hb ⟨by omega, by omega⟩).mono ?_
      rintro e w' ⟨h1, ⟨-, rfl⟩ | ⟨h2, -⟩⟩
      · exact ⟨h1, rfl⟩
      · exact absurd hb h2
    have HB := Lib.hid hb
    have HNEW := Lib.hid hnew
    obtain ⟨seed, mo, po, sa⟩ := c
    simp only [Cfg.val] at *
    clear hnew hms hb hl hc
    go_enter Tryz.func6, Tryz.ntmps6
    go_wp2_with (go_at_call 23; refine (HK.out _).mono ?_; rintro e w1 ⟨hb1, rfl⟩; have HB1 := Lib.hid hb1; clear hb1)
    go_ret
    exact ⟨(HNEW.out _).trans (HB1.out.mono (by simp)), .inl ⟨HB.out, rfl⟩⟩
  · have HK : Hid (∀ W, Calls Tryz.prog 23 #[.agg #[.int .u64 c.seed, .int .i64 c.most, .int .i64 c.policy, .int .i64 c.samples]] W fun e w' => Below W.heap.size W w' ∧ ∃ s F, e = .returned (.tuple #[.pointer (some ⟨s, 0, none⟩), .int .i64 0]) ∧ SpH w' s F c.sp ∧ ∀ k, F k → W.heap.size ≤ k) := Lib.hid fun W => by
      refine (kNew_good W c hb hc.seed ⟨by omega, by omega⟩).mono ?_
      rintro e w' ⟨h1, ⟨h2, -⟩ | ⟨-, s, F, h3, h4, h5⟩⟩
      · exact absurd h2 hb
      · exact ⟨h1, s, F, h3, h4, h5⟩
    have HB := Lib.hid hb
    have HNEW := Lib.hid hnew
    have HL := Lib.hid hl
    have hlf := hl.few
    have HSZ := Lib.hid lstInfo
    have HC0 : Hid (c.sp.ents = [] ∧ c.sp.mass = 0) := Lib.hid ⟨rfl, by simp [Cfg.sp, Sp.mass]⟩
    unfold BuiltPost
    obtain ⟨X0, hX0⟩ : ∃ X0, c.sp = X0 := ⟨_, rfl⟩
    rw [hX0] at HK HC0 ⊢
    obtain ⟨seed, mo, po, sa⟩ := c
    simp only [Cfg.val] at *
    clear hnew hms hb hl hc hX0
    go_enter Tryz.func6, Tryz.ntmps6
    go_wp2_with (go_at_call 23; refine (HK.out _).mono ?_; rintro e w1 ⟨hb1, s, F, rfl, hs, hF⟩
                 have HB1 := Lib.hid ((HNEW.out _).trans (hb1.mono (by simp)))
                 have HS1 : Hid (SpX w1 s F X0) := Lib.hid ⟨hs, fun e he => by rw [HC0.out.1] at he; cases he⟩
                 have HF : Hid (∀ k, F k → w.heap.size ≤ k) := Lib.hid fun k hk => by have := hF k hk; simp at this; omega
                 clear hb1 hs hF)
    have HBW : Hid (∀ W, Chg F w1 W → Below w.heap.size w W) := Lib.hid fun W hc => HB1.out.trans (hc.below HB1.out.size HF.out)
    go_loopw [7] (fun i wr => ∃ j : Nat, j ≤ n ∧ i = .int .i64 j ∧ ∃ Y, Hid (SpXTo s F Y w1 wr) ∧ Hid (Y.mass ≤ 5 * j ∧ Sp.SameCfg Y X0)) (fun i _ => n - (intOf i).toNat)
    case atStart => exact ⟨0, Nat.zero_le _, rfl, X0, Lib.hid (SpXTo.start HS1.out), Lib.hid ⟨by rw [HC0.out.2]; omega, rfl, rfl, rfl, rfl⟩⟩
    case round =>
      obtain ⟨j, hj, rfl, Y, HY, HM⟩ := hrel
      by_cases hlt : j < n
      · obtain ⟨x, hx⟩ : ∃ x, l[j]? = some x := ⟨_, List.getElem?_eq_getElem (by rw [HL.out.len]; exact hlt)⟩
        obtain ⟨y, rfl, hcell⟩ := (HL.out.below (HBW.out _ HY.out.chg)).cell j x hx
        have HCL : Hid (∀ i u, x.cells[i]? = some u → wr.cell? ((y.add (j * 3)).add i) = some u) := Lib.hid fun i u hi => by rw [Addr.add_add]; exact hcell i u hi
        have HPR : Hid (Calls Tryz.prog 26 #[.pointer (some ⟨s, 0, none⟩), .agg #[.int .i64 x.act, .string ⟨x.key.toArray⟩, .int .i64 x.n]] wr fun e w' => e = .returned (.tuple #[]) ∧ ∃ Z, SpXTo s F Z w1 w' ∧ Z.mass ≤ 5 * (j + 1) ∧ Sp.SameCfg Z X0) := Lib.hid (by
          obtain ⟨F', h1, hjn⟩ := HY.out.step
          refine (prep_any h1 x (HL.out.ok x (List.mem_of_getElem? hx)) (by have := HM.out.1; omega)).mono ?_
          rintro e w' ⟨he, Z, h2, h3, h4⟩
          obtain ⟨m1, m2, m3, m4, m5⟩ := HM.out
          obtain ⟨n2, n3, n4, n5⟩ := h4
          exact ⟨he, Z, hjn _ _ h2, by omega, n2.trans m2, n3.trans m3, n4.trans m4, n5.trans m5⟩)
        clear hx hcell
        go_wp2_with (first
          | (refine wpl_load_at rfl _ _ rfl _ rfl _ _ HCL.out Tryz.underlying75 rfl HSZ.out ?_)
          | (go_at_call 26; refine HPR.out.mono ?_; rintro e w2 ⟨rfl, Z, h2, h3⟩
             have HZ := Lib.hid h2
             have HZM := Lib.hid h3
             clear h2 h3))
        go_roundw
        case rel => exact ⟨j + 1, by omega, by go_num, Z, HZ, HZM⟩
        case measure => simp [intOf]; omega
      · obtain rfl : j = n := by omega
        go_wp2_with (first
          | (go_at_call 12; refine (xSteps HY.out).mono ?_; rintro e w2 ⟨⟨v, rfl⟩, h2⟩
             have HZ := Lib.hid h2
             clear h2)
          | (go_at_call 22; refine (xTouched HZ.out).mono ?_; rintro e w3 ⟨⟨v2, rfl⟩, h3⟩
             have HQ := Lib.hid h3
             clear h3))
        go_ret
        obtain ⟨F2, q1, q2⟩ := HQ.out.ex
        refine ⟨HBW.out _ HQ.out.chg, .inr ⟨HB.out, s, F2, _, rfl, q1, rfl, rfl, HM.out.2, ?_, fun k hk => ?_⟩⟩
        · have := HM.out.1
          unfold Sp.mass at this ⊢
          simp only [List.length_nil]
          omega
        · rcases q2 k hk with h | h
          · exact HF.out k h
          · exact Nat.le_trans HB1.out.size h
end Go.Proofs.YtelbmphmihjgfaaGreat.DEnt
