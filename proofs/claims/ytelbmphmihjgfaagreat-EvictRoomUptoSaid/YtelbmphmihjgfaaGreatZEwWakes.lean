/- string(make([]byte, n)); wakes. -/
import Derived.Test.YtelbmphmihjgfaaGreatZEvEnf0
import Derived.Test.YtelbmphmihjgfaaGreatZTxVal
import Derived.Test.YtelbmphmihjgfaaGreatZBytes
import Derived.Test.YtelbmphmihjgfaaGreatZKsNew
set_option linter.unusedVariables false
set_option linter.unusedSimpArgs false
namespace Go.Proofs.YtelbmphmihjgfaaGreat.DEnt
open Go.RowKit Pantry Go.Maps Go.Sort

theorem u8Info : (Tryz.prog.info? 5).map (fun i => (i.zero, i.size, i.bytes)) = some (some (.int .u8 0), 1, 1) := by kernel_rfl
/-- n noughts. -/
def zeros (n : Nat) : List UInt8 := List.replicate n 0
theorem b8_zeros (n : Nat) : b8 (zeros n) = List.replicate n (.int .u8 0) := by simp [b8, zeros]
theorem zeros_length (n : Nat) : (zeros n).length = n := by simp [zeros]
theorem run_make_u8 (w : World) (n : Nat) (hn : n ≤ 1099511627776) :
    (Instr.makeSlice 72 (.int .i64 n) (.int .i64 n)).run Tryz.prog w = .ok (.slice (some ⟨w.heap.size, 0, none⟩) n n) (w.alloc (.cells (b8 (zeros n)).toArray 5)) := by
  have hi := u8Info
  cases hq : Tryz.prog.info? 5 with
  | none => rw [hq] at hi; cases hi
  | some i =>
    rw [hq] at hi
    simp only [Option.map_some, Option.some.injEq, Prod.mk.injEq] at hi
    obtain ⟨h1, h2, h3⟩ := hi
    have hr := run_make (P := Tryz.prog) w 72 5 i (.int .u8 0) Tryz.underlying72 hq h1 .i64 .i64 n n (by omega) (Int.le_refl _) (by rw [h3]; omega) (by omega)
    rw [h2, Int.toNat_natCast, Nat.mul_one] at hr
    rw [hr, show (Value.int .u8 0).cells = #[Value.int .u8 0] from rfl, madeCells_one, b8_zeros]
theorem run_text_u8 (w : World) (n : Nat) : (convert 72 9 (.slice (some ⟨w.heap.size, 0, none⟩) n n)).run Tryz.prog (w.alloc (.cells (b8 (zeros n)).toArray 5)) = .ok (.string ⟨(zeros n).toArray⟩) (w.alloc (.cells (b8 (zeros n)).toArray 5)) :=
  run_string_of Tryz.underlying72 Tryz.underlying5 Tryz.underlying9 (zeros_length n) (by
    have := Rd.new w (b8 (zeros n)).toArray 5 (0, 0) (fun u hu => b8_one _ u (by simpa using hu))
    simpa using this)
/-- A text that is put. -/
theorem putText {w : World} {s : Nat} {F : Nat → Prop} {X : Sp} (h : SpH w s F X) (key t : List UInt8) (v : Nat) (hv : TxAt w v t) (hn : ¬ F v) (hk : key.length ≤ 140737488351232) (ht : t.length ≤ 1048576) (hm : X.mass + 5 ≤ 8388608) :
    Calls Tryz.prog 24 #[.pointer (some ⟨s, 0, none⟩), .string ⟨key.toArray⟩, .pointer (some ⟨v, 0, none⟩)] w (PutPost s F X key t v false t.length w) :=
  sPut h key t v t.length false (hv.ok hn) hk (by omega) (by omega) hm
theorem put_first (c : Cfg) (key : List UInt8) (b v n : Nat) : (c.sp.put key b v n) = ⟨c.seed, c.most, c.policy, c.samples, 0, 1, [⟨key, b, v, n, 1, 0⟩], [key], []⟩ := by
  unfold Sp.put
  rw [met_none (show c.sp.find key = none from rfl)]
  simp [Sp.put0, Cfg.sp, dropK, Sp.use, Sp.touch, setK, addT]
/-- What wakes' space comes to. -/
theorem wakes_plain (b v n : Nat) (Y : Sp) (code : Int) (h : Gone 100 (Sp.mk 0 100 1 2 0 1 [⟨[107], b, v, 60, 1, 0⟩] [[107]] []).swept n Y)
    (hc : (code = 0 ∧ ((usedN Y.ents : Nat) : Int) ≤ 100) ∨ (code = 4 ∧ 100 < ((usedN Y.ents : Nat) : Int) ∧ ((1 : Int) ≠ 0 → ∀ k, Y.rank k = none))) : n = 1 ∧ code = 0 ∧ usedN Y.ents = 0 := by
  have hf : (Sp.mk 0 100 1 2 0 1 [⟨[107], b, v, 60, 1, 0⟩] [[107]] []).Fresh := fun e he => by
    obtain rfl : e = ⟨[107], b, v, 60, 1, 0⟩ := by simpa using he
    rfl
  rw [hf.swept] at h
  have hl := h.len
  simp only [List.length_singleton] at hl
  have done : n = 1 → n = 1 ∧ code = 0 ∧ usedN Y.ents = 0 := fun h1 => by
    have h0 : Y.ents = [] := List.eq_nil_of_length_eq_zero (by omega)
    rw [h0] at hc ⊢
    rcases hc with ⟨e, -⟩ | ⟨-, e, -⟩
    · exact ⟨h1, e, rfl⟩
    · exact absurd e (by decide)
  by_cases h1 : n = 1
  · exact done h1
  · obtain rfl : n = 0 := by omega
    cases h
    have hu : usedN [⟨[107], b, v, 60, 1, 0⟩] = 109 := by simp [usedN, KE.costs]
    rcases hc with ⟨-, e⟩ | ⟨-, -, e⟩
    · rw [hu] at e; exact absurd e (by decide)
    · exact absurd (e (by decide) [107]) (by simp [Sp.rank, Sp.find])
theorem afterPut {s p : Nat} {F G : Nat → Prop} {X' : Sp} {P : List Cand} {pm : Nat} {w w' : World} (hs : SpTo s F X' w w') (hp : PlH w p G pm P) (hno : ∀ k, F k → ¬ G k) : ∃ F', SpH w' s F' X' ∧ PlH w' p G pm P ∧ ∀ k, F' k → F k ∨ w.heap.size ≤ k := by
  obtain ⟨⟨F', h1, h2⟩, hc⟩ := hs
  exact ⟨F', h1, hp.keep hc fun k hk hf => hno k hf hk, h2⟩
/-- wakes' space with its key. -/
def wkX (b v : Nat) : Sp := ⟨0, 100, 1, 2, 0, 1, [⟨[107], b, v, 60, 1, 0⟩], [[107]], []⟩
theorem wkX_used (b v : Nat) : usedN (wkX b v).ents = 109 := by simp [usedN, KE.costs, wkX]
theorem wk_put {w w1 w2 : World} {s p : Nat} {F G : Nat → Prop} (hs : SpH w1 s F (Cfg.sp ⟨0, 100, 1, 2⟩)) (hp : PlH w2 p G 4 []) (hb0 : Below w.heap.size w w1) (hb : Below w1.heap.size w1 w2) (hF : ∀ k, F k → w.heap.size ≤ k) :
    Calls Tryz.prog 24 #[.pointer (some ⟨s, 0, none⟩), .string ⟨[107].toArray⟩, .pointer (some ⟨w2.heap.size + 1, 0, none⟩)] ((w2.alloc (.cells (b8 (zeros 60)).toArray 5)).alloc (.cells #[.iface 126 (.string ⟨(zeros 60).toArray⟩)] 130)) fun e w' =>
      e = .returned (.int .i64 0) ∧ ∃ b v F', SpH w' s F' (wkX b v) ∧ PlH w' p G 4 [] ∧ Below w.heap.size w w' ∧ ∀ k, F' k → w.heap.size ≤ k := by
  obtain ⟨-, e1, -⟩ := two_new w2 (.cells (b8 (zeros 60)).toArray 5) (.cells #[.iface 126 (.string ⟨(zeros 60).toArray⟩)] 130)
  have hb2 : Below w2.heap.size w2 ((w2.alloc (.cells (b8 (zeros 60)).toArray 5)).alloc (.cells #[.iface 126 (.string ⟨(zeros 60).toArray⟩)] 130)) := ((Below.refl _ _).alloc (Nat.le_refl _) _).alloc (by simp) _
  obtain ⟨W, hW⟩ : ∃ W, (w2.alloc (.cells (b8 (zeros 60)).toArray 5)).alloc (.cells #[.iface 126 (.string ⟨(zeros 60).toArray⟩)] 130) = W := ⟨_, rfl⟩
  rw [hW] at e1 hb2 ⊢
  have hs2 := hs.below (hb.trans (hb2.mono hb.size))
  have hp2 := hp.below hb2
  have hlen : (zeros 60).length = 60 := zeros_length 60
  refine (putText hs2 [107] (zeros 60) _ e1 (hs2.not_foot e1 (by decide)) (by decide) (by rw [hlen]; decide) (by decide)).mono ?_
  rintro e w' ⟨rfl, b, hbb, ht⟩
  have hpc : putCode [107] (zeros 60) = 0 := by unfold putCode; rw [hlen, if_neg (by decide)]
  rw [hpc, hlen, if_neg (by decide), if_neg (by decide), put_first] at ht
  obtain ⟨⟨F', g1, g2⟩, hc⟩ := ht
  have hsz : w.heap.size ≤ W.heap.size := Nat.le_trans hb0.size (Nat.le_trans hb.size hb2.size)
  refine ⟨by rw [hpc], b, _, F', g1, hp2.keep hc fun k hk hf => ?_, ?_, fun k hk => ?_⟩
  · obtain ⟨c, t, h1, h2⟩ := hp2.blocks hk
    exact hs2.no h1 (by rcases h2 with e | e <;> simp [e]) hf
  · exact ((hb0.trans (hb.mono hb0.size)).trans (hb2.mono (Nat.le_trans hb0.size hb.size))).trans (hc.below hsz hF)
  · rcases g2 k hk with h | h
    · exact hF k h
    · exact Nat.le_trans hsz h
def OneBool (b : Bool) (w : World) (e : Ending) (w' : World) : Prop := e = .returned (.bool b) ∧ Below w.heap.size w w'
theorem wk_enf {w5 : World} {s p r b v : Nat} {F G : Nat → Prop} (hs : SpH w5 s F (wkX b v)) (hp : PlH w5 p G 4 []) (hr : SrcAt w5 r []) : Calls Tryz.prog 9 #[.pointer (some ⟨s, 0, none⟩), .pointer (some ⟨p, 0, none⟩), .pointer (some ⟨r, 0, none⟩)] w5 fun e w' =>
    e = .returned (.tuple #[.int .i64 1, .int .i64 0]) ∧ (Calls Tryz.prog 8 #[.pointer (some ⟨s, 0, none⟩)] w' fun e w2 => e = .returned (.int .i64 0) ∧ w' = w2) ∧ Chg (EvT F G r) w5 w' := by
  refine (enf_full hs hp hr (fun c hc => by cases hc) (fun x hx => by cases hx) ⟨(by decide : (100 : Int) ≠ 0), by rw [wkX_used]; exact (by decide : (100 : Int) < 109)⟩).mono ?_
  rintro e w' (⟨h1, -⟩ | ⟨-, n, Y, P', code, hg, ht, rfl, hc⟩)
  · rw [wkX_used] at h1
    exact absurd h1 (by decide : ¬ ((100 : Int) = 0 ∨ ((109 : Nat) : Int) ≤ 100))
  · obtain ⟨rfl, rfl, h0⟩ := wakes_plain b v n Y code hg hc
    refine ⟨rfl, ?_, ht.chg⟩
    have := evUsed ht
    rw [h0] at this
    exact this
set_option maxRecDepth 100000 in
set_option maxHeartbeats 4000000 in
theorem wakes_any (w : World) : Calls Tryz.prog 5 #[] w (OneBool true w) := by
  have hmk : ∀ w : World, (Instr.makeSlice 72 (.int .i64 60) (.int .i64 60)).run Tryz.prog w = .ok (.slice (some ⟨w.heap.size, 0, none⟩) 60 60) (w.alloc (.cells (b8 (zeros 60)).toArray 5)) := fun w => run_make_u8 w 60 (by omega)
  have hcv := fun w : World => run_text_u8 w 60
  have HN : Hid (Calls Tryz.prog 23 #[.agg #[.int .u64 0, .int .i64 100, .int .i64 1, .int .i64 2]] w fun e w' => Below w.heap.size w w' ∧ ∃ s F, e = .returned (.tuple #[.pointer (some ⟨s, 0, none⟩), .int .i64 0]) ∧ SpH w' s F (Cfg.sp ⟨0, 100, 1, 2⟩) ∧ ∀ k, F k → w.heap.size ≤ k) := Lib.hid (by
    refine (kNew_good w ⟨0, 100, 1, 2⟩ (by decide) (by decide) (by decide)).mono ?_
    rintro e w' ⟨hb, ⟨h1, -⟩ | ⟨-, s, F, h1, h2, h3⟩⟩
    · exact absurd h1 (by decide)
    · exact ⟨hb, s, F, h1, h2, h3⟩)
  have HP : Hid (∀ W, Calls Tryz.prog 7 #[.int .i64 4] W fun e w' => Below W.heap.size W w' ∧ ∃ p G, e = .returned (.tuple #[.pointer (some ⟨p, 0, none⟩), .int .i64 0]) ∧ PlH w' p G 4 [] ∧ ∀ k, G k → W.heap.size ≤ k) := Lib.hid fun W => by
    refine (pNew_any W 4).mono ?_
    rintro e w' (⟨h1, -⟩ | ⟨-, p, G, h1, h2, h3, h4⟩)
    · omega
    · exact ⟨h4, p, G, h1, h2, h3⟩
  go_enter Tryz.func5, Tryz.ntmps5
  go_wp2_with (first
    | (go_at_call 23; refine HN.out.mono ?_; rintro e w1 ⟨hb1, s, F, rfl, hs, hF⟩
       have HB1 := Lib.hid hb1
       have HS := Lib.hid hs
       have HFF := Lib.hid hF
       clear hb1 hs hF)
    | (go_at_call 7; refine (HP.out _).mono ?_; rintro e w2 ⟨hb2, p, G, rfl, hp, hG⟩
       have HB2 := Lib.hid hb2
       have HPL := Lib.hid hp
       have HGG := Lib.hid hG
       have HPU := Lib.hid (wk_put HS.out hp HB1.out hb2 HFF.out)
       clear hb2 hp hG)
    | (go_at_call 25; refine (mkText _ (zeros 60)).mono ?_; rintro e w3 ⟨rfl, rfl⟩)
    | (go_at_call 24; refine HPU.out.mono ?_; rintro e w4 ⟨rfl, b, v, F', hs, hp, hb4, hf4⟩
       have HF4 := Lib.hid hf4
       have HS4 := Lib.hid hs
       have HP4 := Lib.hid hp
       have HB4 := Lib.hid hb4
       clear hs hp hb4 hf4)
    | (go_at_call 10; refine (rnew_any _ none 0 0 [] rfl (Rd.nil _ _) (by omega)).mono ?_; rintro e w5 ⟨r, rfl, hr, hrl, hb5⟩
       have HE := Lib.hid (wk_enf (HS4.out.below hb5) (HP4.out.below hb5) hr)
       have HB5 := Lib.hid hb5
       have HRL := Lib.hid hrl
       clear hr hrl hb5)
    | (go_at_call 9; refine HE.out.mono ?_; rintro e w6 ⟨rfl, hu, hc⟩
       have HUS := Lib.hid hu
       have HCH := Lib.hid hc
       clear hu hc)
    | (go_at_call 8; refine HUS.out.mono ?_; rintro e w7 ⟨rfl, rfl⟩))
  go_ret
  refine ⟨rfl, HB4.out.trans ((HB5.out.mono HB4.out.size).trans (HCH.out.below (Nat.le_trans HB4.out.size HB5.out.size) fun k hk => ?_))⟩
  rcases hk with hk | hk | rfl
  · exact HF4.out k hk
  · exact Nat.le_trans HB1.out.size (HGG.out k hk)
  · exact Nat.le_trans HB4.out.size HRL.out
end Go.Proofs.YtelbmphmihjgfaaGreat.DEnt
