
/- Set of ranks: the new member is put in. -/
import Derived.Test.YteiklgbjjmlmaaaGreatZRk
import Derived.Deep.Cut
set_option linter.unusedVariables false
set_option linter.unusedSimpArgs false
namespace Pantry
open Go Go.RowKit
theorem ins_cost (l : List Mb) (j : Nat) (p : Mb) : rkCost (l.take j ++ [p] ++ l.drop j) = rkCost l + (40 + p.1.length) := by
  have key : ∀ (A B : List Mb), rkCost (A ++ [p] ++ B) = rkCost (A ++ B) + (40 + p.1.length) := fun A B => by simp [rkCost]; omega
  rw [key, List.take_append_drop]
theorem ins_perm (l : List Mb) (j : Nat) (p : Mb) : (l.take j ++ [p] ++ l.drop j).Perm (p :: l) := by
  rw [List.append_assoc, List.singleton_append]
  refine List.perm_middle.trans ?_
  rw [List.take_append_drop]
theorem RkGood.ins {l : List Mb} (h : RkGood l) {j : Nat} {p : Mb} (hat : AtPlace l p j) (hk : ∀ q ∈ l, q.1 ≠ p.1) (hx : ¬ fnan p.2) (ht : p.1.length ≤ 1048576) (hf : l.length < 1048576) : RkGood (l.take j ++ [p] ++ l.drop j) := by
  have hp := ins_perm l j p
  refine ⟨h.rises.insert hat fun q hq hz => hk q hq (cmpR_zero.1 hz).2, fun q hq => ?_, fun q hq => ?_, ?_⟩
  · rcases List.mem_cons.1 (hp.mem_iff.1 hq) with rfl | hq
    · exact hx
    · exact h.num q hq
  · rcases List.mem_cons.1 (hp.mem_iff.1 hq) with rfl | hq
    · exact ht
    · exact h.text q hq
  · rw [hp.length_eq, List.length_cons]; omega
end Pantry
namespace Go.Proofs.YteiklgbjjmlmaaaGreat
open Go.RowKit Pantry

theorem RkAt.below {w w' : World} {r seed d : Nat} {D : Dc} {v : Value} {l : List Mb} (h : RkAt w r seed d D v l) (hb : Below w.heap.size w w') : RkAt w' r seed d D v l := h.keep (Chg.of_below (S := fun _ => False) hb) fun _ _ e => e
def InsPost (w : World) (v : Value) (n : Nat) (l : List Mb) (j : Nat) (x : Mb) (e : Ending) (w3 : World) : Prop :=
  ∃ a c W, e = .returned (.slice a (n + 1) c) ∧ Below w.heap.size w W ∧ w3.ownsRow 0 54 2 (.slice a (n + 1) c) (n + 1) (rkCells (l.take j ++ [x] ++ l.drop j)) ∧ W.grownBy w3 v.ownBlock ∧ ∀ k, (Value.slice a (n + 1) c).ownBlock = some k → v.ownBlock = some k ∨ W.heap.size ≤ k
theorem ins_call {w W : World} {r seed d n : Nat} {D : Dc} {v : Value} {l : List Mb} {x : Mb} {vb j : Nat} (h : RkAt w r seed d D v l) (hn : l.length = n) (hb : Below w.heap.size w W) (hv : W.heap[vb]? = some (.cells #[.string ⟨x.1.toArray⟩, .float .f64 x.2] 54)) (hvb : w.heap.size ≤ vb) (hj : j ≤ l.length) :
    Calls Tryz.prog 95 #[v, .int .i64 j, .slice (some ⟨vb, 0, none⟩) 1 1] W (InsPost w v n l j x) := by
  subst hn
  have hne : v.ownBlock ≠ some vb := fun hh => by
    obtain ⟨c, hc⟩ := row_type h.row hh
    have := block_lt hc
    omega
  have hf := h.good.few
  refine (insert_anyR W 0 vb j l.length v (.string ⟨x.1.toArray⟩) (.float .f64 x.2) (rkCells l) (h.below hb).row hv hne (Nat.zero_le _) hj (by omega) (rkCells_one l) rfl rfl).mono ?_
  rintro e w3 ⟨v', rfl, h1, h2, h3⟩
  have e1 : (rkCells l).take (j * 2) ++ [.string ⟨x.1.toArray⟩, .float .f64 x.2] ++ (rkCells l).drop (j * 2) = rkCells (l.take j ++ [x] ++ l.drop j) := by
    rw [rkCells_take, rkCells_drop, rkCells_append, rkCells_append]; rfl
  rw [e1] at h1
  obtain ⟨a, c, rfl, -⟩ := ownsRow_rd h1 (rkCells_one _)
  exact ⟨a, c, W, rfl, hb, h1, h2, h3⟩
set_option maxHeartbeats 8000000 in
set_option maxRecDepth 100000 in
theorem rset_end (w W w3 : World) (r seed d : Nat) (D : Dc) (v : Value) (l : List Mb) (key : List UInt8) (x j : Nat) (was : Bool) (a3 : Option Addr) (n c3 : Nat) (h : RkAt w r seed d D v l) (hn : l.length = n) (hk : ∀ p ∈ l, p.1 ≠ key) (ht : key.length ≤ 1048576) (hx : ¬ fnan x) (hf : n < 1048576)
    (hat : AtPlace l (key, x) j) (hW : Below w.heap.size w W) (hr3 : w3.ownsRow 0 54 2 (.slice a3 (n + 1) c3) (n + 1) (rkCells (l.take j ++ [(key, x)] ++ l.drop j))) (hg3 : W.grownBy w3 v.ownBlock) (hv3 : ∀ k, (Value.slice a3 (n + 1) c3).ownBlock = some k → v.ownBlock = some k ∨ W.heap.size ≤ k)
    (R : Ending → World → Prop) (hR : Hid (∀ j w', AtPlace l (key, x) j → ROp r seed d D v (l.take j ++ [(key, x)] ++ l.drop j) w w' → R (.returned (.tuple #[.bool (!was), .int .i64 0])) w')) (u3 u4 u5 u6 u7 u8 u10 u11 u12 u13 u14 u15 u16 u17 u18 u19 u20 u21 u22 u23 u24 u25 u26 u27 u28 u29 u30 u31 u32 u33 u34 u35 u36 u37 u38 u39 u40 u41 u42 u43 u44 u45 u46 u47 u48 u49 u50 u51 u52 u53 u54 u55 u56 u57 u58 u59 u60 u61 u62 u63 u64 u65 u66 u67 u68 u69 u70 u71 u72 u73 u74 u75 u76 u77 u78 u79 u80 u81 u82 u83 u84 u85 : Value) :
    ∀ c, cfst (cskip 7 (cbody Tryz.f71)) = c → ∀ cr, csnd (cskip 7 (cbody Tryz.f71)) = cr → ∀ K : Act → World → Prop, (∀ a v, Code.wp Tryz.prog cr (bodyPost Tryz.prog Tryz.f71 R) a v → K a v) →
      Code.wp Tryz.prog c (Exit.then K (bodyPost Tryz.prog Tryz.f71 R)) { tmps := #[.pointer (some ⟨r, 0, none⟩), .string ⟨key.toArray⟩, .float .f64 x, u3, u4, u5, u6, u7, u8, .bool was, u10, u11, u12, u13, u14, u15, u16, u17, u18, u19, u20, u21, u22, u23, u24, u25, u26, u27, u28, u29, u30, u31, u32, u33, u34, u35, u36, u37, u38, u39, u40, u41, u42, u43, u44, u45, u46, u47, u48, u49, u50, u51, u52, u53, u54, u55, u56, u57, u58, u59, u60, u61, u62, u63, u64, u65, u66, u67, u68, u69, u70, u71, u72, u73, u74, u75, u76, u77, u78, u79, u80, u81, u82, u83, u84, u85], defers := [] } (w3.setCell ⟨r, 2, none⟩ (.slice a3 (n + 1) c3)) := by
  have hA := h.below hW
  have hlen : (l.take j ++ [(key, x)] ++ l.drop j).length = n + 1 := by rw [(ins_perm l j _).length_eq, List.length_cons, hn]
  have hr4 : w3.ownsRow 0 54 2 (.slice a3 (n + 1) c3) (l.take j ++ [(key, x)] ++ l.drop j).length (rkCells (l.take j ++ [(key, x)] ++ l.drop j)) := by rw [hlen]; exact hr3
  have hm := hA.mid.row_set hr4 hg3
  have hgood := h.good.ins hat hk hx ht (by omega)
  have hcost := ins_cost l j (key, x)
  have hcl := rkCost_le h.good.text
  obtain ⟨⟨-, q1, -, -⟩, -⟩ := four hm.1.head
  have hdl : D.ents.length ≤ 268435456 := by rw [h.few]; omega
  have hmiss : ∀ e ∈ D.ents, e.key ≠ key := fun e he hh => by
    obtain ⟨y, hy, -⟩ := mem_kv h.kv he
    exact hk _ hy hh
  have HDS := Lib.hid ((set_any _ d D key x hm.1.dict h.wf (by omega) hdl).mono (R' := fun e W' => e = .returned (.bool true) ∧ DOp d D ((key, .float .f64 x) :: D.kv) (w3.setCell ⟨r, 2, none⟩ (.slice a3 (n + 1) c3)) W') fun e W' hp => by
    rcases hp with ⟨⟨e0, he0, hk0⟩, -⟩ | ⟨-, h1, h2⟩
    · exact absurd hk0 (hmiss e0 he0)
    · exact ⟨h1, h2⟩)
  have HALL := Lib.hid (show _ ∧ _ ∧ _ ∧ _ ∧ _ ∧ _ ∧ _ from ⟨h, hat, hW, hr4, hg3, hv3, hgood⟩)
  have hcl2 : rkCost l ≤ 1048576 * 1048616 := Nat.le_trans hcl (Nat.mul_le_mul_right _ (by omega))
  have hcc : (rkCost l : Int) + (40 + (key.length : Int)) = ((rkCost (l.take j ++ [(key, x)] ++ l.drop j) : Nat) : Int) := by
    have : (key, x).1.length = key.length := rfl
    omega
  have HCC := Lib.hid hcc
  obtain ⟨cl, hcl3⟩ : ∃ c, rkCost l = c := ⟨_, rfl⟩
  have HCL := Lib.hid hcl3
  rw [hcl3] at hcl2
  clear h hn hk hx hat hW hr3 hg3 hv3 hA hlen hr4 hm hgood hcost hcl hdl hmiss hcl3 hcc
  intro c hc cr hcr K hK
  conv at hc => lhs; whnf
  conv at hcr => lhs; whnf
  subst hc hcr
  dsimp only
  go_wp2_with fail
  refine HDS.out.mono ?_
  rintro e w4 ⟨rfl, ho⟩
  obtain ⟨h, hat, hW, hr4, hg3, hv3, hgood⟩ := HALL.out
  obtain ⟨hop, j3, j3f⟩ := rk_changed (h.below hW) hr4 hg3 hv3 ho ((h.kv.cons _).trans ((ins_perm l j (key, x)).map mbKv).symm) hgood _ HCC.out
  have HOP : Hid (ROp r seed d D v (l.take j ++ [(key, x)] ++ l.drop j) w (w4.setCell ⟨r, 3, none⟩ (.int .i64 ((cl : Int) + (40 + (key.length : Int)))))) := Lib.hid (by
    rw [HCL.out] at hop
    exact hop.after (fun k hk => hk) (Chg.of_below hW))
  rw [HCL.out] at j3
  have HAT := Lib.hid hat
  clear h hat hW hr4 hg3 hv3 hgood hop ho HDS HALL q1
  go_wp2_with fail
  exact hR.out j _ HAT.out HOP.out
end Go.Proofs.YteiklgbjjmlmaaaGreat
