/- Each of a dict: what its function goes through. -/
import Derived.Test.YtelbmphmihjgfaaGreatZEEAll
import Derived.Test.YtelbmphmihjgfaaGreatZEDGet
import Derived.Test.YtelbmphmihjgfaaGreatZIter
import Derived.Sort.LoopGhostIn
import Derived.Sort.CutIn
set_option linter.unusedVariables false
set_option linter.unusedSimpArgs false
namespace Go.Proofs.YtelbmphmihjgfaaGreat.DEnt
open Go.RowKit Pantry

attribute [local go_sem] Oper.semAt_some
attribute [-go_sem] Builtin.append_
theorem keyI : ElemT Tryz.prog 58 9 1 16 (.string ⟨#[]⟩) := ⟨Tryz.underlying58, by kernel_rfl, rfl, by omega, by omega⟩
/-- What Each yields: a key and what lies under it. -/
def encKV (x : List UInt8 × Nat) : Array Value := #[.string ⟨x.1.toArray⟩, .pointer (some ⟨x.2, 0, none⟩)]
def keyC (e : DE) : Value := .string ⟨e.key.toArray⟩
/-- A value as it may lie under a key. -/
def IsV (v : Value) : Prop := ∃ s : Nat, v = .pointer (some ⟨s, 0, none⟩)
theorem ptrA_drop {c : List DE} {k : Nat} {e : DE} (h : c[k]? = some e) : ptrA (c.drop k) = some ⟨e.b, 0, none⟩ := by
  obtain ⟨hk, rfl⟩ := List.getElem?_eq_some_iff.1 h
  rw [List.drop_eq_getElem_cons hk]; rfl

/-- Between two entries of a chain. -/
def ColSt (W A : World) (d : Nat) (es : List DE) (X : World) : Prop := ∃ kv vv, TwoRows 58 9 140 100 W.heap.size W W.heap.size (W.heap.size + 1) es.length (es.map keyC) es.length (es.map (·.val)) X kv vv ∧ Boxed X (W.heap.size + 1 + 1) 78 (.pointer (some ⟨d, 0, none⟩)) ∧ Below W.heap.size A X ∧ KeepsOthers A X
theorem valI : ElemT Tryz.prog 140 100 1 8 (.pointer none) := ⟨Tryz.underlying140, by kernel_rfl, rfl, by omega, by omega⟩

set_option maxHeartbeats 4000000 in
set_option maxRecDepth 100000 in
theorem each1_in (n : Nat) (hn : 4 ≤ n) (l Bn d : Nat) (D : Dc) (W : World) (hB : W.cell? ⟨Bn, 0, none⟩ = some (.pointer (some ⟨d, 0, none⟩))) (h : DictAt W d D) (hw : D.Wf)
    (kvl : List (List UInt8 × Nat)) (hkv : D.kv = kvl.map fun p => (p.1, .pointer (some ⟨p.2, 0, none⟩))) (Kp : World → World → Prop) (Hd : List (Nat × Obj) → World → Prop) (hK : Keeper Kp W Hd)
    (J Jx : List (List UInt8 × Nat) → World → Prop) (hJ : OwnFrom W.heap.size J) (hJx0 : OwnFrom W.heap.size Jx)
    (hY : ∀ pre x A, J pre A → (pre ++ [x]) <+: kvl → YieldAt Fence.wide (n - 1) Tryz.prog l (encKV x) A fun e B => (e = .returned (.bool true) ∧ J (pre ++ [x]) B ∧ Kp A B) ∨ (e = .returned (.bool false) ∧ Jx (pre ++ [x]) B ∧ Kp A B)) (h0 : J [] W) :
    CallsIn Fence.wide n Tryz.prog 72 #[.func (.yield l) #[] #[], .pointer (some ⟨Bn, 0, none⟩)] W fun e W' => (∃ v, e = .returned v) ∧
      (J kvl W' ∨ (∃ pre, pre <+: kvl ∧ Jx pre W')) := by
  have HA := fun W => Lib.hid (all_any W (some ⟨d, 0, none⟩))
  have hn1 : 1 ≤ n := by omega
  have hone : ∀ e ∈ D.ents, IsV e.val := fun e he => by
    have h1 : e.kv ∈ D.kv := List.mem_map.2 ⟨e, he, rfl⟩
    rw [hkv] at h1
    obtain ⟨p, -, hp⟩ := List.mem_map.1 h1
    have : e.val = .pointer (some ⟨p.2, 0, none⟩) := (congrArg Prod.snd hp).symm
    exact ⟨_, this⟩
  have hlen : D.ents.length ≤ 1099511627776 := hw.few
  have HD := Lib.hid h
  have HW := Lib.hid hw
  have HKV := Lib.hid hkv
  have HKK := Lib.hid hK
  have HJ := Lib.hid hJ
  have hJx := Lib.hid hJx0
  have HY := Lib.hid hY
  have HJ0 := Lib.hid h0
  have HON := Lib.hid hone
  have hBl : Bn < W.heap.size := World.block_lt_of_cell? W _ hB
  have hB2 : ((W.alloc (.cells #[.slice none 0 0] 58)).alloc (.cells #[.slice none 0 0] 140)).cell? ⟨Bn, 0, none⟩ = some (.pointer (some ⟨d, 0, none⟩)) :=
    (((Below.refl W.heap.size W).alloc (Nat.le_refl _) _).alloc (by simp) _ |>.cell (p := ⟨Bn, 0, none⟩) hBl).trans hB
  clear h hw hkv hK hJ hJx0 hY h0 hone
  refine callsIn_of_wp_marks Tryz.func72 rfl trivial ?_ rfl
  simp only [Tryz.ntmps72, List.size_toArray, List.length_cons, List.length_nil, Nat.reduceAdd, Nat.reduceSub, Array.replicate_succ, Array.replicate_zero, List.push_toArray, List.append_toArray, List.nil_append, List.cons_append]
  gi_wp2_with fail
  refine ⟨trivial, (callsIn_wide.2 (HA _).out).mono ?_⟩
  rintro e w' ⟨rfl, rfl⟩
  gi_wp2_with fail
  obtain ⟨W0, hW0⟩ : ∃ W0, (((W.alloc (.cells #[.slice none 0 0] 58)).alloc (.cells #[.slice none 0 0] 140)).alloc (.cells #[.pointer (some ⟨d, 0, none⟩)] 78)) = W0 := ⟨_, rfl⟩
  have hB0 : Below W.heap.size W W0 := by
    rw [← hW0]
    exact (((Below.refl _ W).alloc (Nat.le_refl _) _).alloc (by simp) _).alloc (by simp; omega) _
  have hs0 : W0.heap.size = W.heap.size + 1 + 1 + 1 := by rw [← hW0]; simp
  have hb0 : Boxed W0 W.heap.size 58 (.slice none 0 0) := by rw [← hW0]; exact ((Boxed.new W _ _).alloc _).alloc _
  have hb1 : Boxed W0 (W.heap.size + 1) 140 (.slice none 0 0) := by
    have := Boxed.new (W.alloc (.cells #[.slice none 0 0] 58)) 140 (.slice none 0 0)
    rw [World.size_alloc] at this
    rw [← hW0]; exact this.alloc _
  have hb2 : Boxed W0 (W.heap.size + 1 + 1) 78 (.pointer (some ⟨d, 0, none⟩)) := by
    have := Boxed.new ((W.alloc (.cells #[.slice none 0 0] 58)).alloc (.cells #[.slice none 0 0] 140)) 78 (.pointer (some ⟨d, 0, none⟩))
    rw [World.size_alloc, World.size_alloc] at this
    rw [← hW0]; exact this
  have hD0 : DictAt W0 d D := HD.out.keep fun k hk => hB0.block k (HD.out.lt k hk)
  have hst : TwoRows 58 9 140 100 W.heap.size W W.heap.size (W.heap.size + 1) 0 [] 0 [] W0 (.slice none 0 0) (.slice none 0 0) :=
    ⟨hb0, World.ownsRow_nil _ _ _ _, hb1, World.ownsRow_nil _ _ _ _, by simp [Value.ownBlock], hB0⟩
  rw [hW0]
  refine wpIn_rangeV rfl (by omega) (gf := 92) (lb := #[.pointer (some ⟨W.heap.size + 1 + 1, 0, none⟩)]) rfl trivial (enters_of Tryz.func92 (by kernel_rfl) rfl)
    (all_seq (n - 1) (by omega) (W.heap.size + 1 + 1) d W.heap.size D W0 hb2.cell hD0 HW.out (fun k hk => HD.out.lt k hk))
    (fun h k => h.trans k) (fun W1 o o' h1 h2 h3 => ⟨belowK_b (w := W0) (by omega) W1 _ o o' (by omega) h1 h2 h3, World.putObj_heap_other (by omega)⟩) (Below.refl _ _) (fun _ => rfl)
    (fun pre A => (∃ kv vv, TwoRows 58 9 140 100 W.heap.size W W.heap.size (W.heap.size + 1) (pre.flatten).length ((pre.flatten).map keyC) (pre.flatten).length ((pre.flatten).map (·.val)) A kv vv) ∧ Boxed A (W.heap.size + 1 + 1) 78 (.pointer (some ⟨d, 0, none⟩)) ∧ Below W.heap.size W0 A)
    (fun _ _ _ => False)
    ((twoRows_own (Nat.le_refl _) (by omega) _ _ _ _).and ((Own.from (boxed_own _ _ _) _).and (ownFrom_below (by omega) (by omega))))
    (fun _ _ _ _ _ h _ _ => h)
    ⟨⟨_, _, hst⟩, hb2, Below.refl _ _⟩
    (fun x => { tmps := #[.func (.yield l) #[] #[], .pointer (some ⟨Bn, 0, none⟩), undef, .pointer (some ⟨W.heap.size, 0, none⟩), .pointer (some ⟨W.heap.size + 1, 0, none⟩), .pointer (ptrA x), undef, undef, .pointer (some ⟨d, 0, none⟩), .bool false, .pointer (some ⟨d, 0, none⟩), .func (.func 92) #[] #[.pointer (some ⟨W.heap.size + 1 + 1, 0, none⟩)], .pointer (ptrA x), undef, undef, undef, undef, undef, undef, undef, undef, undef, undef, undef, undef, undef, undef, undef, undef, undef, undef, undef, undef, undef, undef, undef, undef, undef, undef, undef, undef, undef, undef, undef, undef, undef, undef, undef, undef], defers := [] }) ?assign ?body ?done ?stop
  case assign =>
    intro l x W K hK
    simp only [encC]
    gi_wp2
    exact hK
  case body =>
    rintro l2 pre x A ⟨⟨kv, vv, hT⟩, hbD, hB⟩ hlt
    obtain ⟨c, hc⟩ : ∃ c, x = c := ⟨_, rfl⟩
    rw [hc] at hlt ⊢
    have hcm : c ∈ Dc.heads D := hlt.subset (by simp)
    have hcp : ChainAt W0 c ∧ ∀ e ∈ c, e.b < W.heap.size ∧ IsV e.val := by
      rcases List.mem_append.1 hcm with hm | hm
      · have hm' := List.mem_of_mem_drop hm
        have he' : ∀ e ∈ c, e ∈ D.ents := fun e he => List.mem_append.2 (.inl (List.mem_flatten.2 ⟨c, hm', he⟩))
        exact ⟨hD0.chT c hm', fun e he => ⟨HD.out.lt _ (.inr (.inr (.inr ⟨e, he' e he, rfl⟩))), HON.out e (he' e he)⟩⟩
      · have he' : ∀ e ∈ c, e ∈ D.ents := fun e he => List.mem_append.2 (.inr (List.mem_flatten.2 ⟨c, hm, he⟩))
        exact ⟨hD0.chY c hm, fun e he => ⟨HD.out.lt _ (.inr (.inr (.inr ⟨e, he' e he, rfl⟩))), HON.out e (he' e he)⟩⟩
    have hfl : (pre ++ [c]).flatten.length ≤ 1099511627776 := by
      obtain ⟨t, ht⟩ := hlt
      have h1 : (pre ++ [c]).flatten.length ≤ (Dc.heads D).flatten.length := by rw [← ht]; simp only [List.flatten_append, List.length_append]; omega
      rw [heads_flat HW.out] at h1
      omega
    have HX := Lib.hid hcp
    obtain ⟨p0, hp0⟩ : ∃ p, ptrA c = p := ⟨_, rfl⟩
    rw [hp0]
    have HP0 := Lib.hid hp0
    have hmx : Tryz.prog.follows .mixedOrders = true := by kernel_rfl
    have HBA := Lib.hid hB
    obtain ⟨es, hes⟩ : ∃ es, pre.flatten = es := ⟨_, rfl⟩
    rw [hes] at hT
    have HES := Lib.hid hes
    have HBD0 := Lib.hid hbD
    have HT0 := Lib.hid (show ColSt W A d es A from ⟨kv, vv, hT, hbD, Below.refl _ _, KeepsOthers.refl _⟩)
    have HL0 : Hid (∀ done rest : List DE, c = done ++ rest → (es ++ done).length + rest.length ≤ 1099511627776) := Lib.hid fun done rest e => by
      rw [List.flatten_append, List.length_append, hes] at hfl
      rw [e] at hfl
      simp at hfl ⊢
      omega
    clear hc hT hbD hB hes hp0 hlt hcm hcp hfl
    gi_wp2_with fail
    gi_loopg [5] (c.length + 1) (fun g p wx => ∃ done rest : List DE, p = .pointer (ptrA rest) ∧ rest.length + 1 ≤ g ∧ Hid (c = done ++ rest ∧ ColSt W A d (es ++ done) wx))
    case atStart => exact ⟨[], c, by rw [HP0.out], Nat.le_refl _, Lib.hid ⟨rfl, by rw [List.append_nil]; exact HT0.out⟩⟩
    case round =>
      obtain ⟨done, rest, rfl, hg, HH⟩ := hrel
      obtain ⟨kv, vv, hT, hbD, hBx, hKx⟩ := HH.out.2
      cases rest with
      | nil =>
        simp only [ptrA]
        have HN := Lib.hid (show KeepsFrom W0.heap.size A wr ∧ KpA W.heap.size (W.heap.size + 1 + 1) A wr from ⟨hKx.from _, hBx, by rw [show wr.heap[W.heap.size + 1 + 1]? = _ from hbD, show A.heap[W.heap.size + 1 + 1]? = _ from HBD0.out]⟩)
        have HF := Lib.hid (show ∃ kv vv, TwoRows 58 9 140 100 W.heap.size W W.heap.size (W.heap.size + 1) (pre ++ [c]).flatten.length ((pre ++ [c]).flatten.map keyC) (pre ++ [c]).flatten.length ((pre ++ [c]).flatten.map (·.val)) wr kv vv from ⟨kv, vv, by
          have h1 : (pre ++ [c]).flatten = es ++ done := by rw [List.flatten_append, HES.out, HH.out.1]; simp
          rw [h1]
          exact hT⟩)
        have HBD := Lib.hid hbD
        have HBX := Lib.hid (HBA.out.trans hBx)
        clear hT hbD hBx hKx
        gi_wp2_with fail
        exact ⟨HN.out.1, HN.out.2, HF.out, HBD.out, HBX.out⟩
      | cons e r =>
        simp only [ptrA]
        have hce := HH.out.1
        have hch : ChainAt W0 (e :: r) := by
          have h1 := HX.out.1.drop done.length
          rw [hce, List.drop_left] at h1
          exact h1
        have hmem : e ∈ c := by rw [hce]; simp
        obtain ⟨hel, he1⟩ := HX.out.2 e hmem
        have hebx : ∀ X, Below W.heap.size A X → X.heap[e.b]? = some (.cells #[.string ⟨e.key.toArray⟩, e.val, ptrOf r] 146) := fun X hX => ((HBA.out.trans hX).block e.b hel).trans hch.1
        obtain ⟨⟨c0, c1, c2⟩, -⟩ := three (hebx wr hBx)
        have hl0 := HL0.out done (e :: r) hce
        obtain ⟨q, hq⟩ : ∃ q, (es ++ done).length = q := ⟨_, rfl⟩
        rw [hq] at hT hl0
        have HQ := Lib.hid hq
        have HL1 := Lib.hid hl0
        clear hq
        have hKA := hT.add keyI 58 (by decide) (by decide) (by decide) (by omega) (by omega) (Nat.le_refl _) (keyC e) rfl (by omega)
        obtain ⟨g1, p1, w1, hr1, hk1, hf1, hT1, hcg1⟩ := hKA
        have hbk := hT.bk.cell
        have hbk2 := (hT.bk.alloc (.cells #[.string ⟨e.key.toArray⟩] 9)).cell
        have hbv := hT.bv.cell
        have HT1 := Lib.hid hT1
        have HCG1 := Lib.hid hcg1
        have HT := Lib.hid hT
        have HBX := Lib.hid hBx
        have HKX := Lib.hid hKx
        have HEBX := Lib.hid hebx
        have HBD := Lib.hid hbD
        have HCH := Lib.hid hch
        have HE1 := Lib.hid he1
        unfold keyC at hr1
        clear hT hbD hBx hKx hT1 hcg1 hebx hch he1 hce hmem hel hl0 hbv
        gi_wp2_with fail
        refine wpIn_cut (fun a' w' => ∃ x19 x20 x21 x22 x23 x24 x25, w' = w1.setCell ⟨W.heap.size, 0, none⟩ (.slice (some ⟨g1, 0, none⟩) (q + 1) p1) ∧ a' = { tmps := #[.func (.yield l) #[] #[], .pointer (some ⟨Bn, 0, none⟩), undef, .pointer (some ⟨W.heap.size, 0, none⟩), .pointer (some ⟨W.heap.size + 1, 0, none⟩), .pointer (some ⟨e.b, 0, none⟩), undef, undef, .pointer (some ⟨d, 0, none⟩), .bool false, .pointer (some ⟨d, 0, none⟩), .func (.func 92) #[] #[.pointer (some ⟨W.heap.size + 1 + 1, 0, none⟩)], .pointer p0, .pointer (some ⟨e.b, 0, none⟩), .bool true, u15, u16, u17, u18, x19, x20, x21, x22, x23, x24, x25, u26, u27, u28, u29, u30, u31, u32, undef, undef, undef, undef, undef, undef, undef, undef, undef, undef, undef, undef, undef, undef, undef, undef], defers := [] }) ?rest1 ?first1
        case first1 =>
          intro J1 K1 hJ1 hK1
          gi_region_with_o (fail)
          all_goals exact hK1 _ _ (hJ1 _ _ ⟨_, _, _, _, _, _, _, rfl, rfl⟩)
        case rest1 =>
          rintro a' w' ⟨x19, x20, x21, x22, x23, x24, x25, rfl, rfl⟩
          obtain ⟨w2, hw2⟩ : ∃ w2, w1.setCell ⟨W.heap.size, 0, none⟩ (.slice (some ⟨g1, 0, none⟩) (q + 1) p1) = w2 := ⟨_, rfl⟩
          rw [hw2] at HT1 HCG1 ⊢
          clear hw2 hr1 hk1 hf1 c0 c1 c2 hbk hbk2
          have hT2 := HT1.out.swap
          have hS1 : ∀ k, (k = W.heap.size ∨ kv.ownBlock = some k) → W.heap.size ≤ k := by
            rintro k (rfl | hk)
            · exact Nat.le_refl _
            · exact (ownsRow_cells HT.out.rk hk).choose_spec.2
          have hB2 : Below W.heap.size A w2 := HBX.out.trans (HCG1.out.below (Nat.le_trans (by omega) HT.out.below.size) hS1)
          have hl1 := HL1.out
          have hE2 : ElemT Tryz.prog 140 100 1 8 (.pointer none) := valI
          obtain ⟨ev, hev⟩ := HE1.out
          obtain ⟨g2, p2, w3, hr2, hk2, hf2, hT3, hcg2⟩ := hT2.add hE2 140 (by decide) (by decide) (by decide) (by omega) (by omega) (Nat.le_refl _) (.pointer (some ⟨ev, 0, none⟩)) rfl (by omega)
          have hbv := hT2.bk.cell
          have hbv2 := (hT2.bk.alloc (.cells #[.pointer (some ⟨ev, 0, none⟩)] 100)).cell
          obtain ⟨⟨-, c1, c2⟩, -⟩ := three (HEBX.out w2 hB2)
          have HT3 := Lib.hid hT3
          have HCG2 := Lib.hid hcg2
          have HT2 := Lib.hid hT2
          have HB2 := Lib.hid hB2
          have HS1 := Lib.hid hS1
          rw [hev] at c1
          have HEV := Lib.hid hev
          clear hev
          clear hT3 hcg2 hT2 hB2 hS1 hl1 hE2 c2
          gi_wp2_with fail
          refine wpIn_mono (Q := fun x a' w' => x = Exit.normal ∧ ∃ x26 x27 x28 x29 x30 x31 x32, w' = w3.setCell ⟨W.heap.size + 1, 0, none⟩ (.slice (some ⟨g2, 0, none⟩) (q + 1) p2) ∧ a' = { tmps := #[.func (.yield l) #[] #[], .pointer (some ⟨Bn, 0, none⟩), undef, .pointer (some ⟨W.heap.size, 0, none⟩), .pointer (some ⟨W.heap.size + 1, 0, none⟩), .pointer (some ⟨e.b, 0, none⟩), undef, undef, .pointer (some ⟨d, 0, none⟩), .bool false, .pointer (some ⟨d, 0, none⟩), .func (.func 92) #[] #[.pointer (some ⟨W.heap.size + 1 + 1, 0, none⟩)], .pointer p0, .pointer (some ⟨e.b, 0, none⟩), .bool true, u15, u16, u17, u18, x19, x20, x21, x22, x23, x24, x25, x26, x27, x28, x29, x30, x31, x32, undef, undef, undef, undef, undef, undef, undef, undef, undef, undef, undef, undef, undef, undef, undef, undef], defers := [] }) ?first2 ?rest2
          case first2 =>
            gi_region_with_o (fail)
            all_goals exact ⟨rfl, _, _, _, _, _, _, _, rfl, rfl⟩
          case rest2 =>
            rintro x a' w' ⟨rfl, x26, x27, x28, x29, x30, x31, x32, rfl, rfl⟩
            obtain ⟨w4, hw4⟩ : ∃ w4, w3.setCell ⟨W.heap.size + 1, 0, none⟩ (.slice (some ⟨g2, 0, none⟩) (q + 1) p2) = w4 := ⟨_, rfl⟩
            rw [hw4] at HT3 HCG2 ⊢
            clear hw4 hr2 hk2 hf2 c1 hbv hbv2
            have hS2 : ∀ k, (k = W.heap.size + 1 ∨ vv.ownBlock = some k) → W.heap.size ≤ k := by
              rintro k (rfl | hk)
              · omega
              · exact (ownsRow_cells HT2.out.rk hk).choose_spec.2
            have hB4 : Below W.heap.size A w4 := HB2.out.trans (HCG2.out.below (Nat.le_trans (Nat.le_refl _) HT2.out.below.size) hS2)
            obtain ⟨⟨-, -, c2⟩, -⟩ := three (HEBX.out w4 hB4)
            unfold ptrOf at c2
            have HB4 := Lib.hid hB4
            have HS2 := Lib.hid hS2
            clear hB4 hS2
            gi_wp2_with fail
            gi_roundg (r.length + 1)
            case measure => simp at hg; omega
            case rel =>
              refine ⟨done ++ [e], r, rfl, Nat.le_refl _, Lib.hid ⟨by rw [HH.out.1]; simp, ?_⟩⟩
              have hlq : (es ++ (done ++ [e])).length = q + 1 := by rw [← HQ.out, ← List.append_assoc]; simp; omega
              have hfin := HT3.out.swap
              refine ⟨_, _, by
                rw [hlq, ← List.append_assoc, List.map_append, List.map_append (l₁ := es ++ done)]
                simp only [List.map_cons, List.map_nil]
                rw [HEV.out]
                exact hfin, ?_, HB4.out, ?_⟩
              · have hd2 : Boxed w2 (W.heap.size + 1 + 1) 78 (.pointer (some ⟨d, 0, none⟩)) := HCG1.out.heap HBD.out (by
                  rintro (e | e)
                  · omega
                  · exact (HBD.out.not_row (by decide) HT.out.rk) e.symm)
                exact HCG2.out.heap hd2 (by
                  rintro (e | e)
                  · omega
                  · exact (hd2.not_row (by decide) HT2.out.rk) e.symm)
              · refine (HKX.out.trans (HCG1.out.others ?_)).trans (HCG2.out.others ?_)
                · rintro k (rfl | hk)
                  · exact ⟨_, _, _, HT.out.bk⟩
                  · obtain ⟨c', hc', -⟩ := ownsRow_cells HT.out.rk hk
                    exact ⟨_, _, _, hc'⟩
                · rintro k (rfl | hk)
                  · exact ⟨_, _, _, HT2.out.bk⟩
                  · obtain ⟨c', hc', -⟩ := ownsRow_cells HT2.out.rk hk
                    exact ⟨_, _, _, hc'⟩
  case done =>
    rintro E1 A hE ⟨⟨kv, vv, hT⟩, hbD, hB⟩ hKE
    rw [heads_flat HW.out] at hT
    have hk1 : D.ents.map keyC = kvl.map fun p => .string ⟨p.1.toArray⟩ := by
      have h1 := congrArg (List.map fun p : List UInt8 × Value => Value.string ⟨p.1.toArray⟩) HKV.out
      show D.ents.map (fun e => Value.string ⟨e.key.toArray⟩) = _
      simpa [Dc.kv, DE.kv, Function.comp_def] using h1
    have hv1 : D.ents.map (·.val) = kvl.map fun p => .pointer (some ⟨p.2, 0, none⟩) := by
      have h1 := congrArg (List.map fun p : List UInt8 × Value => p.2) HKV.out
      simpa [Dc.kv, DE.kv, Function.comp_def] using h1
    have hln : D.ents.length = kvl.length := by
      have h1 := congrArg List.length HKV.out
      simpa [Dc.kv] using h1
    rw [hk1, hv1, hln] at hT
    rw [hln] at hlen
    obtain ⟨nn, hnn⟩ : ∃ nn, kvl.length = nn := ⟨_, rfl⟩
    rw [hnn] at hT hlen
    have HN := Lib.hid hnn
    have HJA := Lib.hid (ownBelow HJ.out HJ0.out hT.below)
    obtain ⟨pk, ck, rfl, -⟩ := ownsRow_rd hT.rk (by intro u hu; obtain ⟨p, -, rfl⟩ := List.mem_map.1 hu; rfl)
    obtain ⟨pv, cv, rfl, -⟩ := ownsRow_rd hT.rv (by intro u hu; obtain ⟨p, -, rfl⟩ := List.mem_map.1 hu; rfl)
    obtain ⟨lk, hlk1, hlk2⟩ := rowObjs hT.rk
    obtain ⟨lv, hlv1, hlv2⟩ := rowObjs hT.rv
    obtain ⟨os, hos⟩ : ∃ os : List (Nat × Obj), (E1, Obj.deferred (some [])) :: (W.heap.size + 1, Obj.cells #[.slice pv nn cv] 140) :: (lk ++ lv) = os := ⟨_, rfl⟩
    have hst : ∀ p ∈ os, A.heap[p.1]? = some p.2 ∧ W.heap.size ≤ p.1 := by
      intro p hp
      rw [← hos] at hp
      rcases List.mem_cons.1 hp with rfl | hp
      · exact ⟨hKE, by simp; omega⟩
      · rcases List.mem_cons.1 hp with rfl | hp
        · exact ⟨hT.bv, by simp⟩
        · rcases List.mem_append.1 hp with hp | hp
          · exact hlk1 p hp
          · exact hlv1 p hp
    have HHD := Lib.hid (HKK.out.start os A hst hT.below)
    have HUSE : Hid (∀ X, Hd os X → X.heap[E1]? = some (.deferred (some [])) ∧ Boxed X (W.heap.size + 1) 140 (.slice pv nn cv) ∧ Rd X pk (kvl.map fun p => .string ⟨p.1.toArray⟩) ∧ Rd X pv (kvl.map fun p => .pointer (some ⟨p.2, 0, none⟩))) := Lib.hid fun X hX => by
      have h1 := HKK.out.obj os X hX
      rw [← hos] at h1
      refine ⟨h1 (E1, .deferred (some [])) (by simp), h1 (W.heap.size + 1, .cells #[.slice pv nn cv] 140) (by simp), ?_, ?_⟩
      · obtain ⟨p, c, hv, hr⟩ := ownsRow_rd (hlk2 X fun q hq => h1 q (by simp [hq])) (by intro u hu; obtain ⟨p, -, rfl⟩ := List.mem_map.1 hu; rfl)
        cases hv; exact hr
      · obtain ⟨p, c, hv, hr⟩ := ownsRow_rd (hlv2 X fun q hq => h1 q (by simp [hq])) (by intro u hu; obtain ⟨p, -, rfl⟩ := List.mem_map.1 hu; rfl)
        cases hv; exact hr
    have hbk := hT.bk.cell
    clear hT hbD hB hKE hk1 hv1 hln hnn hlk1 hlk2 hlv1 hlv2 hos hst
    gi_wp2_with fail
    gi_loopw [35] (fun i wr => ∃ k : Nat, k ≤ nn ∧ i = .int .i64 k ∧ Hid (J (kvl.take k) wr) ∧ Hid (Hd os wr)) (fun i _ => nn - (intOf i).toNat)
    case atStart => exact ⟨0, Nat.zero_le _, rfl, HJA, HHD⟩
    case round =>
      obtain ⟨k, hk, rfl, HJk, HDk⟩ := hrel
      by_cases hlt : k < nn
      · obtain ⟨x, hx⟩ : ∃ x, kvl[k]? = some x := ⟨_, List.getElem?_eq_getElem (by rw [HN.out]; exact hlt)⟩
        obtain ⟨-, hbv, hrk, hrv⟩ := HUSE.out wr HDk.out
        obtain ⟨-, xk, rfl, hck⟩ := hrk k (.string ⟨x.1.toArray⟩) (by rw [List.getElem?_map, hx]; rfl)
        obtain ⟨-, xv, rfl, hcv⟩ := hrv k (.pointer (some ⟨x.2, 0, none⟩)) (by rw [List.getElem?_map, hx]; rfl)
        have hbvc := hbv.cell
        obtain ⟨fn, tmps, assign, body, hy, hR⟩ := HY.out _ x wr HJk.out (take_prefix_snoc hx)
        have HR := Lib.hid hR
        have HX := Lib.hid hx
        dsimp only [encKV] at hy
        clear hR hx hbv hrk hrv
        gi_wp2_with fail
        refine HR.out.mono ?_
        rintro e W3 (⟨rfl, hJ3, hk3⟩ | ⟨rfl, hJx3, hk3⟩)
        · have HJ3 := Lib.hid hJ3
          have HD3 := Lib.hid (HKK.out.kp _ _ _ hk3 HDk.out)
          clear hJ3 hk3
          gi_wp2_with fail
          go_roundw
          case rel => exact ⟨k + 1, by omega, by go_num, Lib.hid (by rw [← take_snoc_get HX.out]; exact HJ3.out), HD3⟩
          case measure => simp [intOf]; omega
        · have HE := Lib.hid (HUSE.out W3 (HKK.out.kp _ _ _ hk3 HDk.out)).1
          have HPX := Lib.hid (show _ ∧ _ from ⟨take_prefix_snoc HX.out, hJx3⟩)
          clear hJx3 hk3
          gi_wp2_with fail
          refine ⟨by simp, .inl ⟨_, _, rfl, run_takeDeferred HE.out, ?_⟩⟩
          refine ⟨_, results_none rfl _ _ _, ⟨_, rfl⟩, .inr ⟨_, HPX.out.1, ?_⟩⟩
          exact hJx.out.putObj _ HPX.out.2 (by omega) HE.out rfl
      · obtain rfl : k = nn := by omega
        have HE := Lib.hid (HUSE.out wr HDk.out).1
        have HJE : Hid (J kvl wr) := Lib.hid (by
          have := HJk.out
          rwa [List.take_of_length_le (by rw [HN.out]; exact Nat.le_refl _)] at this)
        gi_wp2_with fail
        refine ⟨by simp, .inl ⟨_, _, rfl, run_takeDeferred HE.out, ?_⟩⟩
        refine ⟨_, results_none rfl _ _ _, ⟨_, rfl⟩, .inl ?_⟩
        exact HJ.out.putObj _ HJE.out (by omega) HE.out rfl
  case stop =>
    rintro D c pre W hD hSp h _
    exact h.elim
theorem each_seq (n : Nat) (hn : 4 ≤ n) (Bn d : Nat) (D : Dc) (w : World) (hB : w.cell? ⟨Bn, 0, none⟩ = some (.pointer (some ⟨d, 0, none⟩))) (h : DictAt w d D) (hw : D.Wf)
    (kvl : List (List UInt8 × Nat)) (hkv : D.kv = kvl.map fun p => (p.1, .pointer (some ⟨p.2, 0, none⟩))) (Kp : World → World → Prop) (Hd : List (Nat × Obj) → World → Prop)
    (hK : ∀ W, Below w.heap.size w W → w.heap.size + 2 ≤ W.heap.size → Keeper Kp W Hd) :
    SeqV Fence.wide n Tryz.prog 72 #[.pointer (some ⟨Bn, 0, none⟩)] encKV Kp kvl w := fun l J Jx W hW hsz hJ hJx hY h0 => by
  have hBl : Bn < w.heap.size := World.block_lt_of_cell? w _ hB
  exact each1_in n hn l Bn d D W ((hW.cell (p := ⟨Bn, 0, none⟩) hBl).trans hB) (h.keep fun k hk => hW.block k (h.lt k hk)) hw kvl hkv Kp Hd (hK W hW hsz) J Jx hJ hJx hY h0
end Go.Proofs.YtelbmphmihjgfaaGreat.DEnt
