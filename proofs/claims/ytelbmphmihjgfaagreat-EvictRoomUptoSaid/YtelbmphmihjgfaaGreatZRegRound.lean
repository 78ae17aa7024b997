/- What is stored, of texts: the plain data, the closure, the sort. -/
import Derived.Test.YtelbmphmihjgfaaGreatZEwPrep
import Derived.Deep.RegionHeld3
import Derived.RangeFuncCalls
import Derived.OrdersIn
import Derived.Test.YtelbmphmihjgfaaGreatZEEEach
import Derived.Test.YtelbmphmihjgfaaGreatZIter
set_option linter.unusedVariables false
set_option linter.unusedSimpArgs false
namespace Pantry
open Go Go.RowKit Go.Proofs Go.Sort
def cmpK (x y : KE) : Int := Lib.compareBytes x.key y.key
theorem ltK (x y : KE) : ltOf cmpK x y = decide (cmpB x.key y.key < 0) := rfl
theorem swoK : SWO (ltOf cmpK) where
  irrefl x := by rw [ltK]; exact decide_eq_false (cmpB_irr x.key)
  trans x y z h1 h2 := by
    rw [ltK] at *
    exact decide_eq_true (cmpB_lt_trans (of_decide_eq_true h1) (of_decide_eq_true h2))
  ntrans x y z h1 h2 := by
    rw [ltK] at *
    have k1 := of_decide_eq_false h1
    have k2 := of_decide_eq_false h2
    have := leB_trans (a := z.key) (b := y.key) (c := x.key) (by simp [leB]; simpa using k2) (by simp [leB]; simpa using k1)
    simp [leB] at this
    exact decide_eq_false (by omega)
instance : Inhabited KE := ⟨⟨[], 0, 0, 0, 0, 0⟩⟩
/-- All keys, rising. -/
def Sp.Rows (X : Sp) (l : List KE) : Prop := l.Perm X.ents ∧ l.Pairwise fun x y => cmpB x.key y.key < 0
theorem rows_of {X : Sp} (hg : SpGood X) {l : List KE} (hp : l.Perm X.ents) (hs : l.Pairwise fun x y => ¬ cmpK y x < 0) : X.Rows l := by
  refine ⟨hp, ?_⟩
  have hk := List.pairwise_map.1 ((hp.map (·.key)).nodup_iff.2 hg.keys)
  exact (hk.and hs).imp fun {a b} ⟨e1, e2⟩ => (cmpB_tri e1).resolve_right e2
theorem main_list {X : Sp} {kv : List (List UInt8 × Value)} (h : kv.Perm (X.ents.map KE.kv)) (hg : SpGood X) : ∃ es : List KE, es.Perm X.ents ∧ kv = es.map KE.kv := by
  let f : List UInt8 × Value → KE := fun p => (X.find p.1).getD ⟨[], 0, 0, 0, 0, 0⟩
  have hf : ∀ e ∈ X.ents, f e.kv = e := fun e he => by
    show (X.find e.key).getD _ = e
    rw [find_of_mem hg he]; rfl
  refine ⟨kv.map f, ?_, ?_⟩
  · have := h.map f
    rw [List.map_map] at this
    have e : X.ents.map (f ∘ KE.kv) = X.ents := by
      conv => rhs; rw [← List.map_id X.ents]
      exact List.map_congr_left fun e he => hf e he
    rwa [e] at this
  · rw [List.map_map]
    conv => lhs; rw [← List.map_id kv]
    refine List.map_congr_left fun p hp => ?_
    obtain ⟨e, he, rfl⟩ := List.mem_map.1 (h.subset hp)
    show e.kv = (f e.kv).kv
    rw [hf e he]
end Pantry
namespace Go.Proofs.YtelbmphmihjgfaaGreat.DEnt
open Go.RowKit Pantry Go.Maps Go.Sort

/-- A stored text as cells. -/
def stoC (e : KE) : List Value := [.string ⟨e.key.toArray⟩, .int .i64 1, .string ⟨(zeros e.cost).toArray⟩, .slice none 0 0, .slice none 0 0, .slice none 0 0, .int .i64 e.dl]
theorem stoC_len (e : KE) : (stoC e).length = 7 := rfl
theorem stoC_one (e : KE) : ∀ u ∈ stoC e, u.oneCell' = true := by
  intro u hu
  simp [stoC] at hu
  rcases hu with rfl | rfl | rfl | rfl | rfl <;> rfl
theorem stosC_one (l : List KE) : ∀ u ∈ l.flatMap stoC, u.oneCell' = true := fun u hu => by
  obtain ⟨c, -, hc⟩ := List.mem_flatMap.1 hu
  exact stoC_one c u hc
theorem stoI : ElemT Tryz.prog 54 64 7 120 (.agg #[.string ⟨#[]⟩, .int .i64 0, .string ⟨#[]⟩, .slice none 0 0, .slice none 0 0, .slice none 0 0, .int .i64 0]) := ⟨Tryz.underlying54, by kernel_rfl, rfl, by omega, by omega⟩
theorem m_kind (n : Nat) (s : ByteArray) (w : World) : (method (n + 1) 126 (.string s) "pantry/value.kind").run Tryz.prog w = .ok (173, .string s) w := by kernel_rfl
theorem m_plain (n : Nat) (s : ByteArray) (w : World) : (method (n + 1) 126 (.string s) "pantry/value.plain").run Tryz.prog w = .ok (174, .string s) w := by kernel_rfl
theorem tKind_any (w : World) (s : ByteArray) : Calls Tryz.prog 173 #[.string s] w fun e w' => e = .returned (.int .i64 1) ∧ w = w' := by
  go_enter Tryz.func173, Tryz.ntmps173
  go_wp2_with fail
  go_ret
  exact ⟨rfl, rfl⟩
theorem kind_any (w : World) (v : Nat) (t : List UInt8) (h : w.cell? ⟨v, 0, none⟩ = some (.iface 126 (.string ⟨t.toArray⟩))) : Calls Tryz.prog 79 #[.pointer (some ⟨v, 0, none⟩)] w fun e w' => e = .returned (.int .i64 1) ∧ w = w' := by
  have HE := Lib.hid (tKind_any w ⟨t.toArray⟩)
  have hme := m_kind
  go_enter Tryz.func79, Tryz.ntmps79
  go_wp2_with (go_at_call 173; refine HE.out.mono ?_; rintro e w1 ⟨rfl, rfl⟩)
  go_ret
  exact ⟨rfl, rfl⟩
theorem tPlain_any (w : World) (s : ByteArray) (p : Nat) (u : Value) (h : w.cell? ⟨p, 1, none⟩ = some u) (hf : w.frozen? ⟨p, 1, none⟩ = false) : Calls Tryz.prog 174 #[.string s, .pointer (some ⟨p, 0, none⟩)] w fun e w' => e = .returned (.tuple #[]) ∧ w' = w.setCell ⟨p, 1, none⟩ (.string s) := by
  go_enter Tryz.func174, Tryz.ntmps174
  go_wp2_with fail
  refine bodyPost_end (results_none rfl _ _ _) rfl ?_
  exact ⟨rfl, rfl⟩
def PlainTx (t : List UInt8) (w : World) (e : Ending) (w' : World) : Prop := e = .returned (.agg #[.int .i64 1, .string ⟨t.toArray⟩, .slice none 0 0, .slice none 0 0, .slice none 0 0]) ∧ Below w.heap.size w w'
set_option maxRecDepth 100000 in
set_option maxHeartbeats 2000000 in
theorem plainTx_any (w : World) (v : Nat) (t : List UInt8) (h : w.cell? ⟨v, 0, none⟩ = some (.iface 126 (.string ⟨t.toArray⟩))) : Calls Tryz.prog 45 #[.pointer (some ⟨v, 0, none⟩)] w (PlainTx t w) := by
  have hv := World.block_lt_of_cell? w _ h
  have hmp := m_plain
  have hnew := fun o o' => ((Below.refl w.heap.size w).alloc (Nat.le_refl _) o).alloc (by simp) o'
  have ha : ∀ o o', ((w.alloc o).alloc o').cell? ⟨v, 0, none⟩ = some (.iface 126 (.string ⟨t.toArray⟩)) := fun o o' => ((hnew o o').cell (p := ⟨v, 0, none⟩) hv).trans h
  have HNEW := Lib.hid hnew
  have HTP : Hid (∀ o0, (((w.alloc o0).alloc (.cells #[.int .i64 1, .string ⟨#[]⟩, .slice none 0 0, .slice none 0 0, .slice none 0 0] 62)).cell? ⟨w.heap.size + 1, 1, none⟩ = some (.string ⟨#[]⟩)) ∧ ((w.alloc o0).alloc (.cells #[.int .i64 1, .string ⟨#[]⟩, .slice none 0 0, .slice none 0 0, .slice none 0 0] 62)).frozen? ⟨w.heap.size + 1, 1, none⟩ = false) := Lib.hid fun o0 => by
    obtain ⟨-, e1, -⟩ := two_new w o0 (.cells #[.int .i64 1, .string ⟨#[]⟩, .slice none 0 0, .slice none 0 0, .slice none 0 0] 62)
    exact ⟨cell_of_row _ _ 1 _ _ _ e1, frozen_of_row _ _ 1 _ _ e1⟩
  clear hnew
  go_enter Tryz.func45, Tryz.ntmps45
  go_wp2_with (first
    | (go_at_call 79; refine (kind_any _ v t (ha _ _)).mono ?_; rintro e w1 ⟨rfl, rfl⟩)
    | (go_at_call 174; refine (tPlain_any _ ⟨t.toArray⟩ (w.heap.size + 1) _ (HTP.out _).1 (HTP.out _).2).mono ?_; rintro e w1 ⟨rfl, rfl⟩))
  refine bodyPost_ret (v := .agg #[.int .i64 1, .string ⟨t.toArray⟩, .slice none 0 0, .slice none 0 0, .slice none 0 0]) ?_ rfl ?_
  · simp [results, Tryz.results45, go_sem]
  · refine ⟨rfl, ?_⟩
    repeat (first | exact Below.refl _ _ | exact HNEW.out _ _ | refine Below.setCell ?_ (by simp) _ | refine Below.alloc ?_ (by simp) _)
theorem keyC_box {w W : World} {g : Nat} {k : Value} {c : Array Value} {T : TypeId} (e : w.heap[g]? = some (.cells c T)) (hk : c[0]? = some k) (hb : Below w.heap.size w W) : W.cell? ⟨g, 0, none⟩ = some k := by
  have hg : g < w.heap.size := block_lt e
  exact (hb.cell (p := ⟨g, 0, none⟩) hg).trans ((cell_of_row w g 0 _ _ _ e).trans hk)
set_option maxHeartbeats 2000000 in
theorem stored1_any (x y : KE) (W : World) : Calls Tryz.prog 47 #[.agg (stoC x).toArray, .agg (stoC y).toArray] W fun e w' => e = .returned (.int .i64 (cmpK x y)) ∧ ∃ q os', w' = Sort.grow (W.drewN q) os' := by
  have HS := fun W' => Lib.hid (cmpS_any W' x.key y.key)
  unfold cmpK
  generalize Lib.compareBytes x.key y.key = r2 at HS
  obtain ⟨xk, xb, xv, xc, xs, xd⟩ := x
  obtain ⟨yk, yb, yv, yc, ys, yd⟩ := y
  simp only [stoC] at *
  generalize zeros xc = z1
  generalize zeros yc = z2
  go_enter Tryz.func47, Tryz.ntmps47
  go_wp2_with (go_at_call 40; refine (HS _).out.mono ?_; rintro e w1 ⟨rfl, rfl⟩)
  go_ret
  exact ⟨rfl, 0, _, by rw [Sort.alloc_eq_grow, Sort.alloc_eq_grow, Sort.grow_grow]; rfl⟩
theorem sortStoreds_any (w : World) (base n : Nat) (v : Value) (l : List KE) (hl : l.length = n) (hn : n ≤ 268435456) (h : w.ownsRow base 64 7 v n (l.flatMap stoC)) :
    Calls Tryz.prog 46 #[v, .func (.func 47) #[] #[]] w fun r w' => r = .returned (.tuple #[]) ∧ ∃ l' : List KE, l'.Perm l ∧ l'.Pairwise (fun x y => ¬ cmpK y x < 0) ∧ w'.ownsRow base 64 7 v n (l'.flatMap stoC) ∧ w.grownBy w' v.ownBlock := by
  have eg : ∀ args w, (callFunc 47 args).run Tryz.prog w = .ok (.enter 47 args) w := enters_of Tryz.func47 (by kernel_rfl) rfl
  refine (sortF_row Tryz.sortStored 7 (by omega) Tryz.isAgg64 Tryz.sizeOf64 stoC stoC_len stoC_one cmpK swoK 47 #[] w base 64 n v l hl hn eg ?_ h).mono ?_
  · intro blk cap hv m os dk hdk x y
    exact stored1_any x y _
  · rintro r w' ⟨rfl, l', hp, hs, hr, hg⟩
    exact ⟨rfl, l', hp, hs.imp fun {a b} e => by rw [ltK] at e; exact of_decide_eq_false e, hr, hg⟩
end Go.Proofs.YtelbmphmihjgfaaGreat.DEnt

/- A region inside a round, by the laws that hold outside of a fence: what yields under S is taken first. -/
set_option linter.unusedVariables false
namespace Go.RowKit

def noDefer : Op → Bool
  | .defer _ => false
  | _ => true

theorem opIn_of_op {P : Program} {ops : Array Oper} {Q : Exit → Act → World → Prop} (hL : ¬ LetsOut Q) {l n i : Nat} {K K' : Act → World → Prop} (hK : ∀ a w, K a w → K' a w)
    (hd : ∀ o, ops[i]? = some o → noDefer o.op = true) {a : Act} {w : World} (h : wpOp P ops Q i K a w) : wpOpIn (Fence.wide.inRound l) n P ops Q i K' a w := by
  unfold wpOp at h
  unfold wpOpIn
  cases ho : ops[i]? with
  | none => rw [ho] at h; exact hK _ _ h
  | some o =>
    rw [ho] at h
    have hdo := hd o ho
    simp only at h ⊢
    split
    · rename_i hw
      rw [if_pos hw] at h
      rcases h with h | h
      · refine ⟨fun _ _ => trivial, ?_⟩
        rw [Oper.semAt_eq _ _ _ (fun c hc => by rw [hc] at hdo; cases hdo)]
        unfold Oper.wp at h
        generalize (execOp a.eval o).run P w = r at h
        cases r with
        | ok nx w' =>
          cases nx with
          | value v => exact hK _ _ h
          | skip => exact hK _ _ h
          | defer d => exact hK _ _ h
          | enter f args =>
            refine ⟨fun hz => (by cases hz), ?_⟩
            have h2 : CallsIn Fence.wide (n - 1) P f args w' _ := callsIn_wide.2 h
            refine (CallsIn.inRound l h2).mono ?_
            intro e w'' he
            cases e with
            | returned v => exact hK _ _ he
            | panicked c => exact he
            | outgrown => exact he
          | row r args =>
            refine ⟨fun hz => (by cases hz), ?_⟩
            intro c cs _
            obtain ⟨v, w'', hv, hs⟩ := h c cs
            exact ⟨v, w'', hK _ _ hv, stepsIn_wide.2 hs⟩
          | _ => exact h.elim
        | halt hl w' =>
          cases hl with
          | panic v => exact h
          | _ => exact h.elim
      · exact absurd h.2 hL
    · rename_i hw
      rw [if_neg hw] at h
      exact ⟨fun _ _ => trivial, hK _ _ h⟩

theorem anyIn_of_any {P : Program} {md : Region.Mode} {ops : Array Oper} {Q : Exit → Act → World → Prop} (hL : ¬ LetsOut Q) {l n : Nat} (hd : ops.all (fun o => noDefer o.op) = true) :
    ∀ (fuel : Nat) (listed : Array Bool) (a : Act) (w : World), wpAny P md ops Q fuel listed a w → wpAnyIn (Fence.wide.inRound l) n P md ops Q fuel listed a w
  | 0, _, _, _, h => h
  | fuel + 1, listed, a, w, h => ⟨h.1, fun i hi => opIn_of_op hL (fun a w => anyIn_of_any hL hd fuel _ a w) (fun o ho => Array.all_eq_true_iff_forall_mem.1 hd o (Array.mem_of_getElem? ho)) (h.2 i hi)⟩

/-- The post of what ends by itself alone. -/
def Ends (R : Act → World → Prop) : Exit → Act → World → Prop
  | .normal, a, w => R a w
  | _, _, _ => False

theorem Ends.mk {R : Act → World → Prop} {a : Act} {w : World} (h : R a w) : Ends R .normal a w := h

/-- THE BEGINNING. -/
theorem round_region_held {P : Program} {id l n : Nat} {ops : Array Oper} {Q : Exit → Act → World → Prop} {a : Act} {w : World} {S : World → Prop} (hm : P.follows .mixedOrders = true) (hd : ops.all (fun o => noDefer o.op) = true)
    (hS : S w.drew) (h : S w.drew → wpAnyH P .any ops (Ends (Q .normal)) S ops.size (Array.replicate ops.size false) a w.drew) : (Code.region id ops true).wpIn (Fence.wide.inRound l) n P Q a w := by
  refine wpIn_mono (Q := Ends (Q .normal)) ?_ (fun e a w h => by cases e <;> first | exact h | exact h.elim)
  exact wpIn_region_any hm (anyIn_of_any (fun ⟨_, _, h⟩ => h) hd _ _ _ _ (wpAny_of_held _ _ _ _ (h hS)))
end Go.RowKit

/- Stored, of texts: the walk. -/
set_option linter.unusedVariables false
set_option linter.unusedSimpArgs false
namespace Go.Proofs.YtelbmphmihjgfaaGreat.DEnt
open Go.RowKit Pantry Go.Maps Go.Sort

attribute [local go_sem] Oper.semAt_some
attribute [-go_sem] Builtin.append_
theorem below_others {A W : World} (h : Below A.heap.size A W) : KeepsOthers A W := KeepsOthers.of_grownBy (Chg.of_below (S := fun _ => False) h).grown fun _ _ e => by cases e
theorem below_kpL {A W : World} (h : Below A.heap.size A W) (N B : Nat) (hB : B < A.heap.size) : KpL N B A W :=
  ⟨h.size, fun k o _ _ ho => (h.block k (block_lt ho)).trans ho, .inl (ownIn_cell (h.cell (p := ⟨B, 0, none⟩) hB))⟩
/-- The entries of keys. -/
def fndAll (X : Sp) (pre : List (List UInt8 × Nat)) : List KE := pre.map fun p => (X.find p.1).getD ⟨[], 0, 0, 0, 0, 0⟩
/-- What the body reads of an entry. -/
def EntS (b v : Nat) (dl : Int) (W : World) : Prop := W.cell? ⟨b, 0, none⟩ = some (.pointer (some ⟨v, 0, none⟩)) ∧ W.cell? ⟨b, 3, none⟩ = some (.int .i64 dl)
theorem EntS.below {b v N : Nat} {dl : Int} {W W' : World} (h : EntS b v dl W) (hb : Below N W W') (hn : b < N) : EntS b v dl W' := ⟨(hb.cell (p := ⟨b, 0, none⟩) hn).trans h.1, (hb.cell (p := ⟨b, 3, none⟩) hn).trans h.2⟩
def StoredPost (X : Sp) (w : World) (e : Ending) (w' : World) : Prop := ∃ v l, e = .returned v ∧ X.Rows l ∧ w'.ownsRow w.heap.size 64 7 v l.length (l.flatMap stoC) ∧ Below w.heap.size w w'
set_option maxRecDepth 100000 in
set_option maxHeartbeats 4000000 in
theorem sStored {w : World} {s : Nat} {F : Nat → Prop} {X : Sp} (h : SpX w s F X) : Calls Tryz.prog 17 #[.pointer (some ⟨s, 0, none⟩)] w (StoredPost X w) := by
  have hmx : Tryz.prog.follows .mixedOrders = true := by kernel_rfl
  refine (callsIn_wide (n := 6)).1 ?_
  obtain ⟨m, l, t, M, L, sv, h1, -⟩ := h.sp.ex
  obtain ⟨-, -, -, -, -, -, -, c7, -⟩ := head11 h1.head
  have hg := h.sp.good
  obtain ⟨es, hes, hkv⟩ := main_list h1.mkv hg
  have hkv2 : M.kv = (es.map keB).map fun p => (p.1, Value.pointer (some ⟨p.2, 0, none⟩)) := by rw [hkv, List.map_map]; rfl
  have hMl : M.ents.length = es.length := by have := congrArg List.length hkv; simpa [Dc.kv] using this
  obtain ⟨kvl, hkvl⟩ : ∃ kvl, es.map keB = kvl := ⟨_, rfl⟩
  rw [hkvl] at hkv2
  obtain ⟨n, hn⟩ : ∃ n, es.length = n := ⟨_, rfl⟩
  have hn8 : n ≤ 8388608 := by
    rw [← hn, hes.length_eq]
    have := hg.few
    unfold Sp.mass at this
    omega
  have hL := dlen_any w m M h1.main
  rw [hMl, hn] at hL
  have HL := Lib.hid hL
  have HE := fun W => Lib.hid (each_any W (some ⟨m, 0, none⟩))
  have hsb : s < w.heap.size := block_lt h1.head
  have H := Lib.hid h
  have H1 := Lib.hid h1
  have HN := Lib.hid hn
  have HES := Lib.hid hes
  have HKV := Lib.hid hkv2
  have HKVL := Lib.hid hkvl
  obtain ⟨i0, hi, hz0, hz1, hz2⟩ := info_parts stoI.info
  clear h h1 hg hes hkv hkv2 hMl hn hL hkvl
  refine callsIn_of_wp_marks Tryz.func17 rfl trivial ?_ rfl
  simp only [Tryz.ntmps17, List.size_toArray, List.length_cons, List.length_nil, Nat.reduceAdd, Nat.reduceSub, Array.replicate_succ, Array.replicate_zero, List.push_toArray, List.append_toArray, List.nil_append, List.cons_append]
  gi_wp2_with fail
  refine ⟨trivial, (callsIn_wide.2 HL.out).mono ?_⟩
  rintro e w' ⟨rfl, rfl⟩
  gi_wp2_with (gi_at_make; refine wpListIn_make_own w rfl _ _ 54 rfl w.heap.size 64 i0 (.agg #[.string ⟨#[]⟩, .int .i64 0, .string ⟨#[]⟩, .slice none 0 0, .slice none 0 0, .slice none 0 0, .int .i64 0]) 7 Tryz.underlying54 hi hz0 hz1 .i64 .i64 n n rfl rfl rfl (by rw [hz2]; omega) (by unfold maxLen; omega) (Nat.le_refl _) ?_; intro w1 hown hgrow
               have HOWN := Lib.hid hown
               have HGROW := Lib.hid hgrow
               have h1' : (w1.alloc (.cells #[.slice (some ⟨w.heap.size, 0, none⟩) 0 n] 54)).cell? ⟨s, 7, none⟩ = some (.pointer (some ⟨m, 0, none⟩)) := by
                 have hb1 : Below w.heap.size w w1 := grownBy_below (Below.refl _ _) hgrow (fun k e => by cases e) (Nat.le_refl _)
                 exact ((hb1.alloc hb1.size _).cell (p := ⟨s, 7, none⟩) hsb).trans c7
               clear hown hgrow)
  refine ⟨trivial, (callsIn_wide.2 (HE _).out).mono ?_⟩
  rintro e w' ⟨rfl, rfl⟩
  gi_wp2_with fail
  obtain ⟨W0, hW0⟩ : ∃ W0, ((w1.alloc (.cells #[.slice (some ⟨w.heap.size, 0, none⟩) 0 n] 54)).alloc (.cells #[.pointer (some ⟨m, 0, none⟩)] 78)) = W0 := ⟨_, rfl⟩
  have hb1 : Below w.heap.size w w1 := grownBy_below (Below.refl _ _) HGROW.out (fun k e => by cases e) (Nat.le_refl _)
  have hwl : w.heap.size < w1.heap.size := (HOWN.out.lt w.heap.size rfl).2
  have hB0 : Below w.heap.size w W0 := by rw [← hW0]; exact (hb1.alloc hb1.size _).alloc (by simp; omega) _
  have hs0 : W0.heap.size = w1.heap.size + 1 + 1 := by rw [← hW0]; simp
  have hb0 : Boxed W0 w1.heap.size 54 (.slice (some ⟨w.heap.size, 0, none⟩) 0 n) := by rw [← hW0]; exact (Boxed.new w1 _ _).alloc _
  have hbd : Boxed W0 (w1.heap.size + 1) 78 (.pointer (some ⟨m, 0, none⟩)) := by
    have := Boxed.new (w1.alloc (.cells #[.slice (some ⟨w.heap.size, 0, none⟩) 0 n] 54)) 78 (.pointer (some ⟨m, 0, none⟩))
    rw [World.size_alloc] at this
    rw [← hW0]; exact this
  have hrow0 : W0.ownsRow w.heap.size 64 7 (.slice (some ⟨w.heap.size, 0, none⟩) 0 n) 0 [] := by rw [← hW0]; exact (HOWN.out.alloc _).alloc _
  have hD0 : DictAt W0 m M := H1.out.main.keep fun k hk => hB0.block k (H1.out.main.lt k hk)
  have hown0 : ownIn w1.heap.size W0 = some w.heap.size := ownIn_boxed hb0
  rw [hW0]
  refine wpIn_rangeV rfl (by omega) (gf := 72) (lb := #[.pointer (some ⟨w1.heap.size + 1, 0, none⟩)]) rfl trivial (enters_of Tryz.func72 (by kernel_rfl) rfl)
    (each_seq 5 (by omega) (w1.heap.size + 1) m M W0 hbd.cell hD0 H1.out.mwf kvl HKV.out (KpL (W0.heap.size + 2) w1.heap.size) (HdL (W0.heap.size + 2) w1.heap.size)
      (fun W hW hsz => keeperL hsz (by omega) (by rw [ownIn_cell (hW.cell (p := ⟨w1.heap.size, 0, none⟩) hb0.lt), hown0]; intro k hk; cases hk; omega)))
    (fun h k => h.trans k) (fun W1 o o' _ _ _ => KpL.putObj W1 o' (by omega) (by omega)) (Below.refl _ _) (fun _ => rfl)
    (fun pre A => (∃ v, Boxed A w1.heap.size 54 v ∧ A.ownsRow w.heap.size 64 7 v pre.length ((fndAll X pre).flatMap stoC) ∧ True) ∧ Below w.heap.size W0 A)
    (fun _ _ _ => False)
    ((Own.from (holdsRow_own _ _ _ _ _ (fun pre : List (List UInt8 × Nat) => pre.length) (fun pre => (fndAll X pre).flatMap stoC) (fun _ _ => True)) _).and (ownFrom_below (by omega) (by omega)))
    (fun _ _ _ _ _ h _ _ => h)
    ⟨⟨_, hb0, hrow0, trivial⟩, Below.refl _ _⟩
    (fun x => { tmps := #[.pointer (some ⟨s, 0, none⟩), undef, .slice none 0 0, .pointer (some ⟨w1.heap.size, 0, none⟩), .string ⟨x.1.toArray⟩, .pointer (some ⟨x.2, 0, none⟩), .pointer (some ⟨s, 0, none⟩), .bool false, .pointer (some ⟨s, 0, none⟩), .pointer (some ⟨s, 0, none⟩), .pointer (some ⟨s, 7, none⟩), .pointer (some ⟨m, 0, none⟩), .int .i64 n, .slice (some ⟨w.heap.size, 0, none⟩) 0 n, .pointer (some ⟨s, 0, none⟩), .pointer (some ⟨s, 0, none⟩), .pointer (some ⟨s, 7, none⟩), .pointer (some ⟨m, 0, none⟩), .func (.func 72) #[] #[.pointer (some ⟨w1.heap.size + 1, 0, none⟩)], .string ⟨x.1.toArray⟩, .pointer (some ⟨x.2, 0, none⟩), undef, undef, undef, undef, undef, undef, undef, undef, undef, undef, undef, undef, undef, undef, undef, undef, undef], defers := [] }) ?assign ?body ?done ?stop
  case assign =>
    intro l x W K hK
    simp only [encKV]
    gi_wp2
    exact hK
  case body =>
    rintro l2 pre x A ⟨⟨v, hv, hrow, -⟩, hB⟩ hlt
    have hpl : pre.length + 1 ≤ n := by
      have h1 := hlt.length_le
      rw [← HKVL.out, List.length_map, HN.out] at h1
      simpa using h1
    have hxm : x ∈ es.map keB := by rw [HKVL.out]; exact hlt.subset (by simp)
    obtain ⟨e, hee, rfl⟩ := List.mem_map.1 hxm
    have heX : e ∈ X.ents := HES.out.subset hee
    have hbA : Below w.heap.size w A := hB0.trans hB
    have hent := (hbA.block e.b (block_lt (H1.out.ents e heX))).trans (H1.out.ents e heX)
    have hc0 : A.cell? ⟨e.b, 0, none⟩ = some (.pointer (some ⟨e.v, 0, none⟩)) := cell_of_row _ _ 0 _ _ _ hent
    have hc3 : A.cell? ⟨e.b, 3, none⟩ = some (.int .i64 e.dl) := cell_of_row _ _ 3 _ _ _ hent
    have htx : TxAt A e.v (zeros e.cost) := (hbA.block e.v (block_lt (H.out.tx e heX).1)).trans (H.out.tx e heX).1
    have HP := Lib.hid (plainTx_any A.drew e.v (zeros e.cost) (by rw [cell_drew_own]; exact cell_of_row _ _ 0 _ _ _ htx))
    have hfn : fndAll X (pre ++ [(e.key, e.b)]) = fndAll X pre ++ [e] := by
      unfold fndAll
      rw [List.map_append]
      simp [find_of_mem H.out.sp.good heX]
    have hbv := hv.cell
    have HV := Lib.hid hv
    have HROW := Lib.hid hrow
    have HB := Lib.hid hB
    have HFN := Lib.hid hfn
    have HENT := Lib.hid hent
    have hNA : w.heap.size ≤ A.heap.size := hbA.size
    simp only [keB]
    clear hv hrow hB hlt hxm hfn htx hbA
    have hbw : e.b < w.heap.size := block_lt (H1.out.ents e heX)
    have hbA : e.b < A.heap.size := Nat.lt_of_lt_of_le hbw hNA
    have hwN : w.heap.size < w1.heap.size := hwl
    have hES : EntS e.b e.v e.dl A := ⟨hc0, hc3⟩
    obtain ⟨zc, hzc⟩ : ∃ zc, zeros e.cost = zc := ⟨_, rfl⟩
    have hsto : stoC e = [.string ⟨e.key.toArray⟩, .int .i64 1, .string ⟨zc.toArray⟩, .slice none 0 0, .slice none 0 0, .slice none 0 0, .int .i64 e.dl] := by rw [← hzc]; rfl
    have HSTO := Lib.hid hsto
    rw [hzc] at HP
    clear hc0 hc3 hsto hzc
    have HPK : Hid (∀ w2, Below A.heap.size A.drew w2 → ∃ g cap w3, (Builtin.append_ #[54, 54] 54 #[v, .slice (some ⟨w2.heap.size, 0, none⟩) 1 1]).run Tryz.prog (w2.alloc (.cells #[.string ⟨e.key.toArray⟩, .int .i64 1, .string ⟨zc.toArray⟩, .slice none 0 0, .slice none 0 0, .slice none 0 0, .int .i64 e.dl] 64)) = .ok (.slice (some ⟨g, 0, none⟩) (pre.length + 1) cap) w3 ∧
        w3.cell? ⟨w1.heap.size, 0, none⟩ = some v ∧ w3.frozen? ⟨w1.heap.size, 0, none⟩ = false ∧ w2.cell? ⟨w1.heap.size, 0, none⟩ = some v ∧ (∀ o, (w2.alloc o).cell? ⟨w1.heap.size, 0, none⟩ = some v) ∧
        Hid (EntS e.b e.v e.dl w2) ∧ Hid (∀ o, EntS e.b e.v e.dl (w2.alloc o)) ∧ Hid (EntS e.b e.v e.dl w3) ∧ Hid (EntS e.b e.v e.dl (w3.setCell ⟨w1.heap.size, 0, none⟩ (.slice (some ⟨g, 0, none⟩) (pre.length + 1) cap))) ∧
        Hid (Boxed w2 w1.heap.size 54 v ∧ w2.ownsRow w.heap.size 64 7 v pre.length ((fndAll X pre).flatMap stoC) ∧ Below A.heap.size A w2 ∧
          Added 54 64 7 w.heap.size w1.heap.size (pre.length + 1) ((fndAll X pre).flatMap stoC ++ stoC e) v (.slice (some ⟨g, 0, none⟩) (pre.length + 1) cap) w2 (w3.setCell ⟨w1.heap.size, 0, none⟩ (.slice (some ⟨g, 0, none⟩) (pre.length + 1) cap)))) := Lib.hid fun w2 hb2 => by
      have hb2' : Below A.heap.size A w2 := (Below.refl A.heap.size A).drew.trans hb2
      have hv2 : Boxed w2 w1.heap.size 54 v := (hb2'.block _ HV.out.lt).trans HV.out
      have hr2 : w2.ownsRow w.heap.size 64 7 v pre.length ((fndAll X pre).flatMap stoC) := ownsRow_belowAll HROW.out hb2'
      obtain ⟨g, cap, w3, hr1, hk1, hf1, hadd⟩ := boxRow_add stoI 54 hv2 hr2 (by decide) #[.string ⟨e.key.toArray⟩, .int .i64 1, .string ⟨zc.toArray⟩, .slice none 0 0, .slice none 0 0, .slice none 0 0, .int .i64 e.dl] (.inl rfl) rfl (by intro u hu; simp at hu; rcases hu with rfl | rfl | rfl | rfl | rfl <;> rfl) (by omega) (Nat.le_trans hNA hb2'.size)
      have hS2 : EntS e.b e.v e.dl w2 := hES.below hb2' hbA
      have hS4 := hS2.below (hadd.below hr2 (by omega) (Nat.le_trans hNA hb2'.size)) hbw
      have hne : (⟨w1.heap.size, 0, none⟩ : Addr).block ≠ e.b := by show w1.heap.size ≠ e.b; omega
      have hS3 : EntS e.b e.v e.dl w3 := ⟨(World.cell?_setCell_far w3 _ ⟨e.b, 0, none⟩ _ hne).symm.trans hS4.1, (World.cell?_setCell_far w3 _ ⟨e.b, 3, none⟩ _ hne).symm.trans hS4.2⟩
      refine ⟨g, cap, w3, hr1, hk1, hf1, hv2.cell, fun o => (((Below.refl w2.heap.size w2).alloc (Nat.le_refl _) o).cell (p := ⟨w1.heap.size, 0, none⟩) hv2.lt).trans hv2.cell, Lib.hid hS2, Lib.hid fun o => hS2.below ((Below.refl w2.heap.size w2).alloc (Nat.le_refl _) o) (Nat.lt_of_lt_of_le hbA hb2'.size), Lib.hid hS3, Lib.hid hS4, Lib.hid ⟨hv2, hr2, hb2', ?_⟩⟩
      rw [HSTO.out]
      exact hadd
    have HSA : Hid (EntS e.b e.v e.dl A.drew) := Lib.hid (hES.below (Below.refl A.heap.size A).drew hbA)
    clear hES hbw hbA
    gi_wp2_with fail
    refine round_region_held (S := EntS e.b e.v e.dl) hmx (by kernel_rfl) HSA.out (fun hHeld => ?_)
    clear hmx
    refine wpAnyH_take (i := 1) (v := ?vv3) rfl (by kernel_rfl) (by kernel_rfl) (by kernel_rfl) (fun _ _ _ h => h) (Or.inl ⟨by rfl, ?hy3⟩) hHeld ?rest3
    case hy3 =>
      intro W hSw
      obtain ⟨q1, q2⟩ := hSw
      go_simp
      all_goals with_reducible rfl
    try simp only [Act.put, List.setIfInBounds_toArray, List.set_cons_zero, List.set_cons_succ, List.getElem_toArray, List.getElem_cons_zero, List.getElem_cons_succ]
    refine wpAnyH_take (i := 2) (v := ?vv4) rfl (by kernel_rfl) (by kernel_rfl) (by kernel_rfl) (fun _ _ _ h => h) (Or.inl ⟨by rfl, ?hy4⟩) hHeld ?rest4
    case hy4 =>
      intro W hSw
      obtain ⟨q1, q2⟩ := hSw
      go_simp
      all_goals with_reducible rfl
    try simp only [Act.put, List.setIfInBounds_toArray, List.set_cons_zero, List.set_cons_succ, List.getElem_toArray, List.getElem_cons_zero, List.getElem_cons_succ]
    refine wpAnyH_take (i := 3) (v := ?vv5) rfl (by kernel_rfl) (by kernel_rfl) (by kernel_rfl) (fun _ _ _ h => h) (Or.inl ⟨by rfl, ?hy5⟩) hHeld ?rest5
    case hy5 =>
      intro W hSw
      obtain ⟨q1, q2⟩ := hSw
      go_simp
      all_goals with_reducible rfl
    try simp only [Act.put, List.setIfInBounds_toArray, List.set_cons_zero, List.set_cons_succ, List.getElem_toArray, List.getElem_cons_zero, List.getElem_cons_succ]
    refine wpAnyH_take (i := 4) (v := ?vv6) rfl (by kernel_rfl) (by kernel_rfl) (by kernel_rfl) (fun _ _ _ h => h) (Or.inl ⟨by rfl, ?hy6⟩) hHeld ?rest6
    case hy6 =>
      intro W hSw
      obtain ⟨q1, q2⟩ := hSw
      go_simp
      all_goals with_reducible rfl
    try simp only [Act.put, List.setIfInBounds_toArray, List.set_cons_zero, List.set_cons_succ, List.getElem_toArray, List.getElem_cons_zero, List.getElem_cons_succ]
    refine wpAnyH_take (i := 5) (v := ?vv7) rfl (by kernel_rfl) (by kernel_rfl) (by kernel_rfl) (fun _ _ _ h => h) (Or.inl ⟨by rfl, ?hy7⟩) hHeld ?rest7
    case hy7 =>
      intro W hSw
      obtain ⟨q1, q2⟩ := hSw
      go_simp
      all_goals with_reducible rfl
    try simp only [Act.put, List.setIfInBounds_toArray, List.set_cons_zero, List.set_cons_succ, List.getElem_toArray, List.getElem_cons_zero, List.getElem_cons_succ]
    refine wpAnyH_take (i := 7) (v := ?vv8) rfl (by kernel_rfl) (by kernel_rfl) (by kernel_rfl) (fun _ _ _ h => h) (Or.inl ⟨by rfl, ?hy8⟩) hHeld ?rest8
    case hy8 =>
      intro W hSw
      obtain ⟨q1, q2⟩ := hSw
      go_simp
      all_goals with_reducible rfl
    try simp only [Act.put, List.setIfInBounds_toArray, List.set_cons_zero, List.set_cons_succ, List.getElem_toArray, List.getElem_cons_zero, List.getElem_cons_succ]
    refine wpAnyH_take (i := 8) (v := ?vv9) rfl (by kernel_rfl) (by kernel_rfl) (by kernel_rfl) (fun _ _ _ h => h) (Or.inl ⟨by rfl, ?hy9⟩) hHeld ?rest9
    case hy9 =>
      intro W hSw
      obtain ⟨q1, q2⟩ := hSw
      go_simp
      all_goals with_reducible rfl
    try simp only [Act.put, List.setIfInBounds_toArray, List.set_cons_zero, List.set_cons_succ, List.getElem_toArray, List.getElem_cons_zero, List.getElem_cons_succ]
    refine wpAnyH_take (i := 9) (v := ?vv10) rfl (by kernel_rfl) (by kernel_rfl) (by kernel_rfl) (fun _ _ _ h => h) (Or.inl ⟨by rfl, ?hy10⟩) hHeld ?rest10
    case hy10 =>
      intro W hSw
      obtain ⟨q1, q2⟩ := hSw
      go_simp
      all_goals with_reducible rfl
    try simp only [Act.put, List.setIfInBounds_toArray, List.set_cons_zero, List.set_cons_succ, List.getElem_toArray, List.getElem_cons_zero, List.getElem_cons_succ]
    refine wpAnyH_take (i := 10) (v := ?vv11) rfl (by kernel_rfl) (by kernel_rfl) (by kernel_rfl) (fun _ _ _ h => h) (Or.inl ⟨by rfl, ?hy11⟩) hHeld ?rest11
    case hy11 =>
      intro W hSw
      obtain ⟨q1, q2⟩ := hSw
      go_simp
      all_goals with_reducible rfl
    try simp only [Act.put, List.setIfInBounds_toArray, List.set_cons_zero, List.set_cons_succ, List.getElem_toArray, List.getElem_cons_zero, List.getElem_cons_succ]
    refine wpAnyH_ready (rs := [0, 6]) (by kernel_rfl) (by simp) ?_
    refine AllReadyH.cons rfl (fun K hK => ?_) (AllReadyH.cons rfl (fun K hK => ?_) AllReadyH.nil)
    · go_simp
      refine hK.out _ _ HSA.out (fun hHeld => ?_)
      clear hK K
      try simp only [Act.put, List.setIfInBounds_toArray, List.set_cons_zero, List.set_cons_succ, List.getElem_toArray, List.getElem_cons_zero, List.getElem_cons_succ]
      refine wpAnyH_ready (rs := [6]) (by kernel_rfl) (by simp) ?_
      refine AllReadyH.cons rfl (fun K hK => ?_) AllReadyH.nil
      go_simp
      refine HP.out.mono ?_
      rintro r w2 ⟨rfl, hb2⟩
      obtain ⟨g, cap, w3, hr1, hk1, hf1, hbv2, hbv3, HS2, HS3, HS4, HS5, HADD⟩ := HPK.out w2 hb2
      clear hb2
      go_wp2_with fail
      refine hK.out _ _ HS2.out (fun hHeld => ?_)
      clear hK K
      try simp only [Act.put, List.setIfInBounds_toArray, List.set_cons_zero, List.set_cons_succ, List.getElem_toArray, List.getElem_cons_zero, List.getElem_cons_succ]
      refine wpAnyH_take (i := 11) (v := ?vv1) rfl (by kernel_rfl) (by kernel_rfl) (by kernel_rfl) (fun _ _ _ h => h) (Or.inl ⟨by rfl, ?hy1⟩) hHeld ?rest1
      case hy1 =>
        intro W hSw
        obtain ⟨q1, q2⟩ := hSw
        go_simp
        all_goals with_reducible rfl
      try simp only [Act.put, List.setIfInBounds_toArray, List.set_cons_zero, List.set_cons_succ, List.getElem_toArray, List.getElem_cons_zero, List.getElem_cons_succ]
      refine wpAnyH_ready (rs := [12]) (by kernel_rfl) (by simp) ?_
      refine AllReadyH.cons rfl (fun K hK => ?_) AllReadyH.nil
      go_simp
      refine hK.out _ _ (HS3.out _) (fun hHeld => ?_)
      clear hK K
      try simp only [Act.put, List.setIfInBounds_toArray, List.set_cons_zero, List.set_cons_succ, List.getElem_toArray, List.getElem_cons_zero, List.getElem_cons_succ]
      refine wpAnyH_ready (rs := [13]) (by kernel_rfl) (by simp) ?_
      refine AllReadyH.cons rfl (fun K hK => ?_) AllReadyH.nil
      go_simp
      refine hK.out _ _ HS4.out (fun hHeld => ?_)
      clear hK K
      try simp only [Act.put, List.setIfInBounds_toArray, List.set_cons_zero, List.set_cons_succ, List.getElem_toArray, List.getElem_cons_zero, List.getElem_cons_succ]
      refine wpAnyH_ready (rs := [14]) (by kernel_rfl) (by simp) ?_
      refine AllReadyH.cons rfl (fun K hK => ?_) AllReadyH.nil
      go_simp
      refine hK.out _ _ HS5.out (fun hHeld => ?_)
      clear hK K
      try simp only [Act.put, List.setIfInBounds_toArray, List.set_cons_zero, List.set_cons_succ, List.getElem_toArray, List.getElem_cons_zero, List.getElem_cons_succ]
      refine wpAnyH_done (by kernel_rfl) (Ends.mk ?_) _
      gi_wp2_with fail
      obtain ⟨hv2, hr2, hb2, hadd⟩ := HADD.out
      refine ⟨((below_others hb2).trans (hadd.others hv2 hr2)).from _, (below_kpL hb2 _ _ HV.out.lt).trans (hadd.kp hv2 (by omega)), ⟨_, hadd.box, ?_, trivial⟩, HB.out.trans ((hb2.mono hNA).trans (hadd.below hr2 (by omega) (Nat.le_trans hNA hb2.size)))⟩
      rw [HFN.out, List.length_append, List.flatMap_append]
      simpa using hadd.row
    · go_simp
      refine HP.out.mono ?_
      rintro r w2 ⟨rfl, hb2⟩
      obtain ⟨g, cap, w3, hr1, hk1, hf1, hbv2, hbv3, HS2, HS3, HS4, HS5, HADD⟩ := HPK.out w2 hb2
      clear hb2
      go_wp2_with fail
      refine hK.out _ _ HS2.out (fun hHeld => ?_)
      clear hK K
      try simp only [Act.put, List.setIfInBounds_toArray, List.set_cons_zero, List.set_cons_succ, List.getElem_toArray, List.getElem_cons_zero, List.getElem_cons_succ]
      refine wpAnyH_take (i := 11) (v := ?vv2) rfl (by kernel_rfl) (by kernel_rfl) (by kernel_rfl) (fun _ _ _ h => h) (Or.inl ⟨by rfl, ?hy2⟩) hHeld ?rest2
      case hy2 =>
        intro W hSw
        obtain ⟨q1, q2⟩ := hSw
        go_simp
        all_goals with_reducible rfl
      try simp only [Act.put, List.setIfInBounds_toArray, List.set_cons_zero, List.set_cons_succ, List.getElem_toArray, List.getElem_cons_zero, List.getElem_cons_succ]
      refine wpAnyH_ready (rs := [0, 12]) (by kernel_rfl) (by simp) ?_
      refine AllReadyH.cons rfl (fun K hK => ?_) (AllReadyH.cons rfl (fun K hK => ?_) AllReadyH.nil)
      · go_simp
        refine hK.out _ _ HS2.out (fun hHeld => ?_)
        clear hK K
        try simp only [Act.put, List.setIfInBounds_toArray, List.set_cons_zero, List.set_cons_succ, List.getElem_toArray, List.getElem_cons_zero, List.getElem_cons_succ]
        refine wpAnyH_ready (rs := [12]) (by kernel_rfl) (by simp) ?_
        refine AllReadyH.cons rfl (fun K hK => ?_) AllReadyH.nil
        go_simp
        refine hK.out _ _ (HS3.out _) (fun hHeld => ?_)
        clear hK K
        try simp only [Act.put, List.setIfInBounds_toArray, List.set_cons_zero, List.set_cons_succ, List.getElem_toArray, List.getElem_cons_zero, List.getElem_cons_succ]
        refine wpAnyH_ready (rs := [13]) (by kernel_rfl) (by simp) ?_
        refine AllReadyH.cons rfl (fun K hK => ?_) AllReadyH.nil
        go_simp
        refine hK.out _ _ HS4.out (fun hHeld => ?_)
        clear hK K
        try simp only [Act.put, List.setIfInBounds_toArray, List.set_cons_zero, List.set_cons_succ, List.getElem_toArray, List.getElem_cons_zero, List.getElem_cons_succ]
        refine wpAnyH_ready (rs := [14]) (by kernel_rfl) (by simp) ?_
        refine AllReadyH.cons rfl (fun K hK => ?_) AllReadyH.nil
        go_simp
        refine hK.out _ _ HS5.out (fun hHeld => ?_)
        clear hK K
        try simp only [Act.put, List.setIfInBounds_toArray, List.set_cons_zero, List.set_cons_succ, List.getElem_toArray, List.getElem_cons_zero, List.getElem_cons_succ]
        refine wpAnyH_done (by kernel_rfl) (Ends.mk ?_) _
        gi_wp2_with fail
        obtain ⟨hv2, hr2, hb2, hadd⟩ := HADD.out
        refine ⟨((below_others hb2).trans (hadd.others hv2 hr2)).from _, (below_kpL hb2 _ _ HV.out.lt).trans (hadd.kp hv2 (by omega)), ⟨_, hadd.box, ?_, trivial⟩, HB.out.trans ((hb2.mono hNA).trans (hadd.below hr2 (by omega) (Nat.le_trans hNA hb2.size)))⟩
        rw [HFN.out, List.length_append, List.flatMap_append]
        simpa using hadd.row
      · go_simp
        refine hK.out _ _ (HS3.out _) (fun hHeld => ?_)
        clear hK K
        try simp only [Act.put, List.setIfInBounds_toArray, List.set_cons_zero, List.set_cons_succ, List.getElem_toArray, List.getElem_cons_zero, List.getElem_cons_succ]
        refine wpAnyH_ready (rs := [0]) (by kernel_rfl) (by simp) ?_
        refine AllReadyH.cons rfl (fun K hK => ?_) AllReadyH.nil
        go_simp
        refine hK.out _ _ (HS3.out _) (fun hHeld => ?_)
        clear hK K
        try simp only [Act.put, List.setIfInBounds_toArray, List.set_cons_zero, List.set_cons_succ, List.getElem_toArray, List.getElem_cons_zero, List.getElem_cons_succ]
        refine wpAnyH_ready (rs := [13]) (by kernel_rfl) (by simp) ?_
        refine AllReadyH.cons rfl (fun K hK => ?_) AllReadyH.nil
        go_simp
        refine hK.out _ _ HS4.out (fun hHeld => ?_)
        clear hK K
        try simp only [Act.put, List.setIfInBounds_toArray, List.set_cons_zero, List.set_cons_succ, List.getElem_toArray, List.getElem_cons_zero, List.getElem_cons_succ]
        refine wpAnyH_ready (rs := [14]) (by kernel_rfl) (by simp) ?_
        refine AllReadyH.cons rfl (fun K hK => ?_) AllReadyH.nil
        go_simp
        refine hK.out _ _ HS5.out (fun hHeld => ?_)
        clear hK K
        try simp only [Act.put, List.setIfInBounds_toArray, List.set_cons_zero, List.set_cons_succ, List.getElem_toArray, List.getElem_cons_zero, List.getElem_cons_succ]
        refine wpAnyH_done (by kernel_rfl) (Ends.mk ?_) _
        gi_wp2_with fail
        obtain ⟨hv2, hr2, hb2, hadd⟩ := HADD.out
        refine ⟨((below_others hb2).trans (hadd.others hv2 hr2)).from _, (below_kpL hb2 _ _ HV.out.lt).trans (hadd.kp hv2 (by omega)), ⟨_, hadd.box, ?_, trivial⟩, HB.out.trans ((hb2.mono hNA).trans (hadd.below hr2 (by omega) (Nat.le_trans hNA hb2.size)))⟩
        rw [HFN.out, List.length_append, List.flatMap_append]
        simpa using hadd.row
  case done =>
    rintro E1 A hE ⟨⟨v, hv, hrow, -⟩, hB⟩ hKE
    have hfa : fndAll X kvl = es := by
      rw [← HKVL.out]
      unfold fndAll
      rw [List.map_map]
      refine (List.map_congr_left fun e he => ?_).trans (List.map_id es)
      simp [keB, find_of_mem H.out.sp.good (HES.out.subset he)]
    have hkl : kvl.length = n := by rw [← HKVL.out, List.length_map, HN.out]
    rw [hfa, hkl] at hrow
    have HS := Lib.hid (sortStoreds_any A w.heap.size n v es HN.out (by omega) hrow)
    have hbv := hv.cell
    have HFIN : Hid (∀ (A2 : World) (l2 : List KE), l2.Perm es → l2.Pairwise (fun x y => ¬ cmpK y x < 0) → A2.ownsRow w.heap.size 64 7 v n (l2.flatMap stoC) → A.grownBy A2 v.ownBlock → Boxed A2 w1.heap.size 54 v ∧ A2.heap[E1]? = some (.deferred (some [])) ∧ StoredPost X w (.returned v) (A2.putObj E1 (.deferred none))) := Lib.hid (by
      intro A2 l2 hp2 hpw hr2 hg2
      have hKE2 : A2.heap[E1]? = some (.deferred (some [])) := (hg2.block E1 (Array.getElem?_eq_some_iff.1 hKE).1 (fun e => by
        obtain ⟨c, hc, -⟩ := ownsRow_cells hrow e.symm
        rw [hKE] at hc; cases hc)).trans hKE
      refine ⟨hv.kept hg2 (hv.not_row (by decide) hrow), hKE2, v, l2, rfl, rows_of H.out.sp.good (hp2.trans HES.out) hpw, ?_, ?_⟩
      · rw [hp2.length_eq, HN.out]
        exact ownsRow_putObj hr2 _ hKE2 rfl
      · have h3 : Below w.heap.size A A2 := (Below.refl _ _).grown hg2 (Nat.le_trans (by omega) hB.size) fun k hk => by
          exact (ownsRow_cells hrow hk).choose_spec.2
        exact ((hB0.trans hB).trans h3).trans (belowK_b (w := w) (Nat.le_refl _) A2 E1 _ _ (by omega) hKE2 rfl rfl))
    clear hrow hv hB hKE hfa hkl
    gi_wp2_with fail
    refine ⟨trivial, (callsIn_wide.2 HS.out).mono ?_⟩
    rintro e A2 ⟨rfl, l2, hp2, hpw, hr2, hg2⟩
    obtain ⟨f1, f2, f3⟩ := HFIN.out A2 l2 hp2 hpw hr2 hg2
    have f1c := f1.cell
    have F2 := Lib.hid f2
    have F3 := Lib.hid f3
    clear hp2 hpw hr2 hg2 f1 f2 f3
    gi_wp2_with fail
    refine ⟨by simp, .inl ⟨_, _, rfl, run_takeDeferred F2.out, ?_⟩⟩
    exact ⟨v, by simp [results, Tryz.f17, go_sem], F3.out⟩
  case stop =>
    rintro E1 c pre A hE hSp h _
    exact h.elim
end Go.Proofs.YtelbmphmihjgfaaGreat.DEnt
