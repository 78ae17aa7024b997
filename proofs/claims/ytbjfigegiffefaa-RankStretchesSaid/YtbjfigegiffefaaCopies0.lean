/- A copy goes its own way. The walk. -/
import Derived.Test.YtbjfigegiffefaaOrders0
set_option linter.unusedVariables false
set_option linter.unusedSimpArgs false
namespace Go.Proofs.Ytbjfigegiffefaa
open Go.RowKit Pantry

/-- Ranks and a list of the law's own; what lies in N is neither's. -/
structure TwinN (w : World) (r : Nat) (v : Value) (l : List Mb) (N : Nat → Prop) (wr : World) : Prop where
  ex : ∃ S L, Rk wr r S l ∧ (∀ k, S k → w.heap.size ≤ k) ∧ L.Perm l ∧ wr.ownsRow 0 41 2 v L.length (rkCells L) ∧ (∀ k, v.ownBlock = some k → ¬ S k ∧ w.heap.size ≤ k) ∧ ∀ k, S k ∨ v.ownBlock = some k → ¬ N k
  lt : ∀ k, N k → k < wr.heap.size
  under : Below w.heap.size w wr
theorem TwinN.twin {w : World} {r : Nat} {v : Value} {l : List Mb} {N : Nat → Prop} {wr : World} (h : TwinN w r v l N wr) : Twin w r v l wr := by
  obtain ⟨⟨S, L, h1, h2, h3, h4, h5, h6⟩, h7, h8⟩ := h
  exact ⟨⟨S, L, h1, h2, h3, h4, h5⟩, h8⟩
theorem Twin.watch {w : World} {r : Nat} {v : Value} {l : List Mb} {w2 w' : World} {N : Nat → Prop} (h : Twin w r v l w2) (hb : Below w2.heap.size w2 w') (hN : ∀ k, N k → w2.heap.size ≤ k ∧ k < w'.heap.size) : TwinN w r v l N w' := by
  obtain ⟨⟨S, L, h1, h2, h3, h4, h5⟩, h6⟩ := h
  refine ⟨⟨S, L, h1.below hb, h2, h3, ownsRow_belowAll h4 hb, h5, ?_⟩, fun k hk => (hN k hk).2, h6.trans (hb.mono h6.size)⟩
  rintro k (hk | hk) hn
  · have := h1.lt k hk; have := (hN k hn).1; omega
  · have := (h4.lt k hk).2; have := (hN k hn).1; omega
theorem TwinN.below {w : World} {r : Nat} {v : Value} {l : List Mb} {N : Nat → Prop} {wr w' : World} (h : TwinN w r v l N wr) (hb : Below wr.heap.size wr w') : TwinN w r v l N w' := by
  obtain ⟨⟨S, L, h1, h2, h3, h4, h5, h6⟩, h7, h8⟩ := h
  exact ⟨⟨S, L, h1.below hb, h2, h3, ownsRow_belowAll h4 hb, h5, h6⟩, fun k hk => Nat.lt_of_lt_of_le (h7 k hk) hb.size, h8.trans (hb.mono h8.size)⟩
theorem TwinN.done {w : World} {r : Nat} {v : Value} {l : List Mb} {N : Nat → Prop} {wr : World} (h : TwinN w r v l N wr) (o : Stp) (hok : o.Ok) :
    Calls Try.prog 22 #[.pointer (some ⟨r, 0, none⟩), v, .agg o.cells.toArray] wr fun e w' => ∃ v', e = .returned (.tuple #[v', .bool true]) ∧ TwinN w r v' (stepL l o) N w' ∧ Chg (fun k => ¬ N k) wr w' := by
  obtain ⟨⟨S, L, h1, h2, h3, h4, h5, h8⟩, h7, h6⟩ := h
  refine (done_any wr r S l L v o h1 h3 h4 (fun k hk => (h5 k hk).1) hok).mono ?_
  rintro e w' ⟨v', rfl, ⟨S', L', q1, q2, q3, q4, q5⟩, q6, q7⟩
  refine ⟨v', rfl, ⟨⟨S', L', q1, fun k hk => (q2 k hk).elim (h2 k) fun hh => Nat.le_trans h6.size hh, q3, q4, fun k hk => ⟨q5 k hk, (q6 k hk).elim (fun hh => (h5 k hh).2) fun hh => Nat.le_trans h6.size hh⟩, ?_⟩, fun k hk => Nat.lt_of_lt_of_le (h7 k hk) q7.size, h6.trans (q7.below h6.size ?_)⟩, q7.mono fun k _ hk => h8 k hk⟩
  · rintro k (hk | hk) hn
    · rcases q2 k hk with hh | hh
      · exact h8 k (.inl hh) hn
      · have := h7 k hn; omega
    · rcases q6 k hk with hh | hh
      · exact h8 k (.inr hh) hn
      · have := h7 k hn; omega
  · rintro k (hk | hk)
    · exact h2 k hk
    · exact (h5 k hk).2
theorem Twin.copy {w : World} {r : Nat} {v : Value} {l : List Mb} {wr : World} (h : Twin w r v l wr) : Calls Try.prog 21 #[.pointer (some ⟨r, 0, none⟩)] wr (RkMade l wr) := by
  obtain ⟨⟨S, L, h1, h2, h3, h4, h5⟩, h6⟩ := h
  exact h1.copy
theorem Twin.hnil {w : World} {r : Nat} {a : Option Addr} {n c : Nat} {l : List Mb} {wr : World} (h : Twin w r (.slice a n c) l wr) : a = none → c = 0 := by
  obtain ⟨⟨S, L, h1, h2, h3, h4, h5⟩, h6⟩ := h
  rintro rfl
  rcases h4.2 with ⟨hv, -⟩ | ⟨g, cap, cur, hv, -⟩ <;> cases hv
  rfl
/-- The members behind more steps. -/
def moreL (l : List Mb) (ops : List Stp) : List Mb := ops.foldl stepL l
theorem moreL_snoc {l : List Mb} {ops : List Stp} {k : Nat} {o : Stp} (h : ops[k]? = some o) : stepL (moreL l (ops.take k)) o = moreL l (ops.take (k + 1)) := by
  obtain ⟨hk, rfl⟩ := List.getElem?_eq_some_iff.1 h
  unfold moreL
  rw [List.take_succ_eq_append_getElem hk, List.foldl_append]
  rfl
theorem rd_chg {N : Nat → Prop} {w w' : World} {a : Option Addr} {xs : List Value} (h : Rd w a xs) (hc : Chg (fun k => ¬ N k) w w') (hN : ∀ k, BlkOf a k → N k) : Rd w' a xs :=
  hc.rd h fun x hx hn => hn (hN _ ⟨x, hx, rfl⟩)
theorem Rk.rangeAll {w : World} {r : Nat} {S : Nat → Prop} {l : List Mb} (h : Rk w r S l) {n : Nat} (hn : l.length = n) : Calls Try.prog 12 #[.pointer (some ⟨r, 0, none⟩), .int .i64 0, .int .i64 n] w (RowPost n l w) := by
  subst hn
  refine (h.range 0 l.length).mono ?_
  rintro e w' ⟨v, rfl, ⟨hrow⟩, hb⟩
  rw [segR_all] at hrow
  obtain ⟨a, c, rfl, hrd⟩ := ownsRow_rd hrow (rkCells_one _)
  exact ⟨a, c, rfl, hrd, own_block hrow, hb⟩
theorem Twin.rangeAll {w : World} {r : Nat} {v : Value} {l : List Mb} {wr : World} (h : Twin w r v l wr) {n : Nat} (hn : l.length = n) : Calls Try.prog 12 #[.pointer (some ⟨r, 0, none⟩), .int .i64 0, .int .i64 n] wr (RowPost n l wr) := by
  obtain ⟨⟨S, L, h1, h2, h3, h4, h5⟩, h6⟩ := h
  exact h1.rangeAll hn
set_option maxHeartbeats 16000000 in
set_option maxRecDepth 100000 in
theorem copies_walk (w : World) (seed : Nat) (hs : seed < 18446744073709551616) (a : Option Addr) (n c : Nat) (ops : List Stp) (hl : OpsAt w a n ops) (a' : Option Addr) (n' c' : Nat) (more : List Stp) (hl' : OpsAt w a' n' more) :
    Calls Try.prog 5 #[.int .u64 seed, .slice a n c, .slice a' n' c'] w (OkPost w) := by
  have HW := Lib.hid (wakes_any w)
  have HL := Lib.hid hl
  have HL' := Lib.hid hl'
  have hn' := hl'.few
  have H1 := Lib.hid hs
  have HS9 := Lib.hid (show (Try.prog.info? 52).map (·.size) = some 9 by kernel_rfl)
  have HET := Lib.hid entT
  clear hl hl' hs
  go_enter Try.func5, Try.ntmps5
  go_wp2_with (first
    | (go_at_call 10; refine HW.out.mono ?_; rintro e w1 ⟨rfl, hb⟩
       have HB := Lib.hid hb
       have HBU := Lib.hid (built_any w1 seed H1.out a n c ops (HL.out.keep hb))
       clear hb)
    | (go_at_call 11; refine HBU.out.mono ?_; rintro e w2 ⟨r, v, rfl, ht⟩
       obtain ⟨L, a2, c2, rfl, hp, hrd, hlen⟩ := ht.entries
       have hf := ht.good.1.few
       obtain ⟨l, hll⟩ : ∃ l, runL ops = l := ⟨_, rfl⟩
       rw [hll] at hlen hf hp ht
       rw [hll]
       obtain ⟨m, hm⟩ : ∃ m, l.length = m := ⟨_, rfl⟩
       rw [hm] at hlen hf ht
       rw [hm]
       have HT := Lib.hid ht
       have HLL := Lib.hid (show _ ∧ _ ∧ _ ∧ _ from ⟨hp, hrd, hlen, hm⟩)
       have HLN := Lib.hid ht.len
       rw [hm] at HLN
       have HR1 := Lib.hid (ht.rangeAll hm)
       clear ht hp hrd hlen hm hll HBU)
    | (go_at_call 13; refine HLN.out.mono ?_; clear HLN; rintro e w3 ⟨rfl, rfl⟩)
    | (go_at_call 12; refine HR1.out.mono ?_; clear HR1; rintro e w3 ⟨a3, c3, rfl, hrd, hblk, hb⟩
       have HRD3 := Lib.hid hrd
       have HT3 := Lib.hid (HT.out.below hb)
       have HRL3 := Lib.hid (HLL.out.2.1.below hb)
       have HCP := Lib.hid HT3.out.copy
       clear hrd hb hblk)
    | (go_at_call 21; refine HCP.out.mono ?_; clear HCP; rintro e w4 ⟨cc, Sc, rfl, hrk, hb, hS⟩
       have HRK4 := Lib.hid hrk
       have HBS := Lib.hid (show _ ∧ _ from ⟨hb, hS⟩)
       have HLN2 := Lib.hid hrk.len
       rw [HLL.out.2.2.2] at HLN2
       have HR2 := Lib.hid (hrk.rangeAll HLL.out.2.2.2)
       clear hrk hb hS)
    | (go_at_call 13; refine HLN2.out.mono ?_; clear HLN2; rintro e w3 ⟨rfl, rfl⟩)
    | (go_at_call 12; refine HR2.out.mono ?_; clear HR2; rintro e w5 ⟨a5, c5, rfl, hrd, hblk, hb⟩
       have HRD5 := Lib.hid hrd
       have HB5 := Lib.hid (HBS.out.1.trans (hb.mono HBS.out.1.size))
       have HRK5 := Lib.hid (HRK4.out.below hb)
       have HRD35 := Lib.hid (HRD3.out.below (HBS.out.1.trans (hb.mono HBS.out.1.size)))
       clear hrd hb hblk)
    | (go_at_call 20; refine (same_any _ _ m m _ _ l l _ HLL.out.2.2.2 HLL.out.2.2.2 (by omega) HRD5.out HRD35.out).mono ?_; rintro e w6 ⟨rfl, q6, rfl⟩
       rw [sameB_refl]
       have hq : Below w5.heap.size w5 (w5.drewN q6) := belowN (Below.refl _ _)
       have HB6 := Lib.hid (HB5.out.trans (hq.mono HB5.out.size))
       have HRK6 := Lib.hid (HRK5.out.below hq)
       have HT6 := Lib.hid (HT3.out.below HB6.out)
       have HC1 := Lib.hid HRK6.out.cost
       have HC2 := Lib.hid HT6.out.cost
       clear hq HRD5 HRD35)
    | (go_at_call 17; refine HC1.out.mono ?_; clear HC1; rintro e w7 ⟨rfl, rfl⟩)
    | (go_at_call 17; refine HC2.out.mono ?_; clear HC2; rintro e w7 ⟨rfl, rfl⟩)
    | (at_make; refine wpl_make HET.out rfl _ _ rfl w3.heap.size _ _ m rfl rfl rfl (by omega) HB6.out.size ?_
       intro w7 hown7 hg7
       have HO7 := Lib.hid hown7
       have HB7 : Hid (Below (w5.drewN q6).heap.size (w5.drewN q6) w7) := Lib.hid ((Below.refl _ _).grown hg7 (Nat.le_refl _) (fun k hk => by cases hk))
       clear hown7 hg7)
    | (at_builtin; refine wpl_append HET.out rfl _ _ rfl w3.heap.size rfl HO7.out (ad := a2) (m := m) (c := c2) (news := rkCells L) rfl HT.out.hnil (by rw [rkCells_length, HLL.out.2.2.1]) (HRL3.out.below (HB6.out.trans (HB7.out.mono HB6.out.size))) (by omega) (Nat.le_trans HB6.out.size HB7.out.size) ?_
       intro v8 w8 hown8 hg8 hv8
       have hb8 : Below (w5.drewN q6).heap.size (w5.drewN q6) w8 := HB7.out.grown hg8 HB7.out.size (fun k hk => by cases hk; exact Nat.le_refl _)
       have HT8 : Hid (Twin w3 cc v8 (moreL l (more.take 0)) w8) := Lib.hid ⟨⟨Sc, L, HRK6.out.below hb8, HBS.out.2, HLL.out.1, by have := ownsRow_base hown8 (Nat.zero_le _); rwa [Nat.zero_add, List.nil_append, ← HLL.out.2.2.1] at this, fun k hk => by
         have hk2 : (w5.drewN q6).heap.size ≤ k := (hv8 k hk).elim (fun hh => by cases hh; exact Nat.le_refl _) fun hh => Nat.le_trans HB7.out.size hh
         exact ⟨fun hs => by have := HRK6.out.lt k hs; omega, Nat.le_trans HB6.out.size hk2⟩⟩, HB6.out.trans (hb8.mono HB6.out.size)⟩
       obtain ⟨a8, c8, hve⟩ := HT8.out.slice
       rw [show moreL l (more.take 0) = l from rfl, HLL.out.2.2.2] at hve
       subst hve
       clear hown8 hg8 hv8 hb8))
  clear HW HRK4 HRK5 HRK6 HBS HB5 HB6 HB7 HO7 HRL3
  go_loopw [12, 65] (fun v i wr => ∃ k : Nat, k ≤ n' ∧ i = .int .i64 k ∧ Hid (Twin w3 cc v (moreL l (more.take k)) wr)) (fun _ i _ => n' - (intOf i).toNat)
  case atStart => exact ⟨0, by omega, rfl, HT8⟩
  case round =>
    clear HT8
    obtain ⟨k, hk, rfl, HTC⟩ := hrel
    by_cases hlt : k < n'
    · obtain ⟨o, hok⟩ : ∃ o, more[k]? = some o := ⟨_, List.getElem?_eq_getElem (by rw [HL'.out.len]; exact hlt)⟩
      have hbel : Below w.heap.size w wr := HB.out.trans ((HT3.out.under.trans (HTC.out.under.mono HT3.out.under.size)).mono HB.out.size)
      obtain ⟨y, hy, hcells⟩ := (HL'.out.keep hbel).cell k _ hok
      subst hy
      have HCL := Lib.hid (show ∀ j u, o.cells[j]? = some u → wr.cell? ((y.add (k * 9)).add j) = some u from fun j u hj => by rw [Addr.add_add]; exact hcells j u hj)
      have HOK := Lib.hid (HL'.out.ok _ (List.mem_of_getElem? hok))
      have HRS := Lib.hid (moreL_snoc (l := l) hok)
      have HD := Lib.hid (fun W (hW : Below wr.heap.size wr W) => (HTC.out.below hW).done o HOK.out)
      obtain ⟨va, vc, rfl⟩ := HTC.out.slice
      clear hok hcells hbel
      go_wp2_with (first
        | (refine wpl_load_at rfl _ _ rfl _ rfl _ _ HCL.out Try.underlying52 rfl HS9.out ?_)
        | (refine wpList_store_row rfl _ _ _ rfl wr.heap.size o.cells.toArray rfl rfl _ _ (heap_alloc_new wr _) HS9.out rfl (cells_one _) ?_
           generalize hw3 : World.setRow _ wr.heap.size o.cells.toArray = w9
           obtain ⟨f1, f2, f3⟩ := copied hw3
           have HF1 := Lib.hid f1
           have HD3 := Lib.hid (HD.out w9 f3)
           clear hw3 f1 f2 f3 HD)
        | (refine wpList_load_row rfl _ _ rfl wr.heap.size rfl _ o.cells.toArray (0, 0) _ HF1.out Try.underlying52 rfl HS9.out ?_)
        | (go_at_call 22; refine HD3.out.mono ?_; clear HD3; rintro e w10 ⟨v', rfl, ht⟩
           rw [HRS.out] at ht
           have HT4 := Lib.hid ht
           clear ht))
      go_roundw
      case rel => exact ⟨k + 1, by omega, by go_num, HT4⟩
      case measure => simp [intOf]; omega
    · obtain rfl : k = n' := by omega
      obtain ⟨va, vc, rfl⟩ := HTC.out.slice
      obtain ⟨lc, hlc⟩ : ∃ lc, moreL l more = lc := ⟨_, rfl⟩
      have htk : moreL l (more.take k) = lc := by rw [List.take_of_length_le (by rw [HL'.out.len]; exact Nat.le_refl _)]; exact hlc
      rw [htk] at HTC ⊢
      have HLC := Lib.hid hlc
      obtain ⟨mc, hmc⟩ : ∃ mc, lc.length = mc := ⟨_, rfl⟩
      rw [hmc] at HTC ⊢
      have HMC := Lib.hid hmc
      have hmcf : mc ≤ 1048576 := by rw [← hmc]; exact HTC.out.good.1.few
      have HUN := Lib.hid HTC.out.under
      have HT9 := Lib.hid (HT3.out.below HUN.out)
      have HW9 := Lib.hid (HRD3.out.below HUN.out)
      have HLN := Lib.hid HT9.out.len
      rw [HLL.out.2.2.2] at HLN
      have HR9 := Lib.hid (HT9.out.rangeAll HLL.out.2.2.2)
      clear hlc htk hmc hlt hk
      go_wp2_with (first
        | (go_at_call 13; refine HLN.out.mono ?_; clear HLN; rintro e w10 ⟨rfl, rfl⟩)
        | (go_at_call 12; refine HR9.out.mono ?_; clear HR9; rintro e w10 ⟨a10, c10, rfl, hrd, hblk, hb⟩
           have HRD10 := Lib.hid hrd
           have HW10 := Lib.hid (HW9.out.below hb)
           have HT10 := Lib.hid (HTC.out.below hb)
           clear hrd hblk hb)
        | (go_at_call 20; refine (same_any _ _ m m _ _ l l _ HLL.out.2.2.2 HLL.out.2.2.2 (by omega) HRD10.out HW10.out).mono ?_; clear HRD10; rintro e w11 ⟨rfl, q11, rfl⟩
           rw [sameB_refl]
           have HT11 := Lib.hid (HT10.out.below (belowN (q := q11) (Below.refl _ _)))
           have HLN2 := Lib.hid HT11.out.len
           rw [HMC.out] at HLN2
           have HR11 := Lib.hid (HT11.out.rangeAll HMC.out)
           clear HW10)
        | (go_at_call 13; refine HLN2.out.mono ?_; rintro e w12 ⟨rfl, rfl⟩)
        | (go_at_call 12; refine HR11.out.mono ?_; clear HR11; rintro e w12 ⟨a12, c12, rfl, hrd, hblk, hb⟩
           have HRD12 := Lib.hid hrd
           have HT12 := Lib.hid (HT11.out.below hb)
           have HBK := Lib.hid (show ∀ x, a12 = some x → w3.heap.size ≤ x.block ∧ x.block < w12.heap.size from fun x hx => ⟨Nat.le_trans HT11.out.under.size (hblk x hx).1, (hblk x hx).2⟩)
           clear hrd hblk hb))
      clear HLN2 HT9 HW9 HTC HT10 HT11 HUN
      obtain ⟨⟨Sd, Ld, hk1, hk2, -⟩, -⟩ := HT12.out
      have HRK := Lib.hid hk1
      obtain ⟨N, hN⟩ : ∃ N : Nat → Prop, N = fun k => Sd k ∨ BlkOf a12 k := ⟨_, rfl⟩
      have HN := Lib.hid (show (∀ k, Sd k → N k) ∧ (∀ k, BlkOf a12 k → N k) from ⟨fun k hk => by rw [hN]; exact .inl hk, fun k hk => by rw [hN]; exact .inr hk⟩)
      have HTN : Hid (TwinN w1 r (.slice a2 m c2) (moreL l (more.take 0)) N w12) := Lib.hid (HT3.out.watch HT12.out.under fun k hk => by
        rw [hN] at hk
        rcases hk with hk | ⟨x, hx, rfl⟩
        · exact ⟨hk2 k hk, hk1.lt k hk⟩
        · exact HBK.out x hx)
      clear hk1 hk2 hN
      go_loopw [8, 100] (fun v i wr => ∃ j : Nat, j ≤ k ∧ i = .int .i64 j ∧ Hid (TwinN w1 r v (moreL l (more.take j)) N wr) ∧ Hid (Chg (fun q => ¬ N q) w12 wr)) (fun _ i _ => k - (intOf i).toNat)
      case atStart => exact ⟨0, by omega, rfl, HTN, Lib.hid (Chg.refl _ _)⟩
      case round =>
        clear HTN
        obtain ⟨j, hj, rfl, HTR, HCH⟩ := hrel
        by_cases hlt : j < k
        · obtain ⟨o, hok⟩ : ∃ o, more[j]? = some o := ⟨_, List.getElem?_eq_getElem (by rw [HL'.out.len]; exact hlt)⟩
          obtain ⟨y, hy, hcells⟩ := (HL'.out.keep (HB.out.trans (HTR.out.under.mono HB.out.size))).cell j _ hok
          subst hy
          have HCL := Lib.hid (show ∀ i u, o.cells[i]? = some u → wr.cell? ((y.add (j * 9)).add i) = some u from fun i u hi => by rw [Addr.add_add]; exact hcells i u hi)
          have HOK := Lib.hid (HL'.out.ok _ (List.mem_of_getElem? hok))
          have HRS := Lib.hid (moreL_snoc (l := l) hok)
          have HD := Lib.hid (fun W (hW : Below wr.heap.size wr W) => (HTR.out.below hW).done o HOK.out)
          obtain ⟨va', vc', rfl⟩ := HTR.out.twin.slice
          clear hok hcells
          go_wp2_with (first
            | (refine wpl_load_at rfl _ _ rfl _ rfl _ _ HCL.out Try.underlying52 rfl HS9.out ?_)
            | (refine wpList_store_row rfl _ _ _ rfl wr.heap.size o.cells.toArray rfl rfl _ _ (heap_alloc_new wr _) HS9.out rfl (cells_one _) ?_
               generalize hw3 : World.setRow _ wr.heap.size o.cells.toArray = w13
               obtain ⟨f1, f2, f3⟩ := copied hw3
               have HF1 := Lib.hid f1
               have HD3 := Lib.hid (HD.out w13 f3)
               have HC3 : Hid (Chg (fun q => ¬ N q) w12 w13) := Lib.hid (HCH.out.trans (Chg.of_below (S := fun _ => False) f3) fun _ _ e => e.elim)
               clear hw3 f1 f2 f3 HD)
            | (refine wpList_load_row rfl _ _ rfl wr.heap.size rfl _ o.cells.toArray (0, 0) _ HF1.out Try.underlying52 rfl HS9.out ?_)
            | (go_at_call 22; refine HD3.out.mono ?_; clear HD3; rintro e w14 ⟨v', rfl, ht, hch⟩
               rw [HRS.out] at ht
               have HT4 := Lib.hid ht
               have HC4 : Hid (Chg (fun q => ¬ N q) w12 w14) := Lib.hid (HC3.out.trans hch fun _ _ e => e)
               clear ht hch))
          go_roundw
          case rel => exact ⟨j + 1, by omega, by go_num, HT4, HC4⟩
          case measure => simp [intOf]; omega
        · obtain rfl : j = k := by omega
          have htk : moreL l (more.take j) = lc := by rw [List.take_of_length_le (by rw [HL'.out.len]; exact Nat.le_refl _)]; exact HLC.out
          rw [htk] at HTR
          have HRK9 := Lib.hid (HRK.out.chg HCH.out fun q hq hn => hn (HN.out.1 q hq))
          have HNOW := Lib.hid (rd_chg HRD12.out HCH.out HN.out.2)
          have HLN := Lib.hid HRK9.out.len
          rw [HMC.out] at HLN
          have HR9 := Lib.hid (HRK9.out.rangeAll HMC.out)
          clear htk HRK HRD12 HCH
          go_wp2_with (first
            | (go_at_call 13; refine HLN.out.mono ?_; clear HLN; rintro e w15 ⟨rfl, rfl⟩)
            | (go_at_call 12; refine HR9.out.mono ?_; clear HR9; rintro e w15 ⟨a15, c15, rfl, hrd, hblk, hb⟩
               have HRD15 := Lib.hid hrd
               have HNOW15 := Lib.hid (HNOW.out.below hb)
               have HTR15 := Lib.hid (HTR.out.twin.below hb)
               clear hrd hblk hb)
            | (go_at_call 20; refine (same_any _ _ mc mc _ _ lc lc _ HMC.out HMC.out (by omega) HRD15.out HNOW15.out).mono ?_; clear HRD15; rintro e w16 ⟨rfl, q16, rfl⟩
               rw [sameB_refl]
               have hq : Below w15.heap.size w15 (w15.drewN q16) := belowN (Below.refl _ _)
               have HT16 := Lib.hid (HTR15.out.below hq)
               have HNOW16 := Lib.hid (HNOW15.out.below hq)
               have HLN2 := Lib.hid HT16.out.len
               rw [HMC.out] at HLN2
               have HR16 := Lib.hid (HT16.out.rangeAll HMC.out)
               clear hq HNOW15)
            | (go_at_call 13; refine HLN2.out.mono ?_; clear HLN2; rintro e w17 ⟨rfl, rfl⟩)
            | (go_at_call 12; refine HR16.out.mono ?_; clear HR16; rintro e w17 ⟨a17, c17, rfl, hrd, hblk, hb⟩
               have HRD17 := Lib.hid hrd
               have HNOW17 := Lib.hid (HNOW16.out.below hb)
               have HU17 := Lib.hid (HB.out.trans ((HT16.out.below hb).under.mono HB.out.size))
               clear hrd hblk hb)
            | (go_at_call 20; refine (same_any _ _ mc mc _ _ lc lc _ HMC.out HMC.out (by omega) HRD17.out HNOW17.out).mono ?_; rintro e w18 ⟨rfl, q18, rfl⟩
               rw [sameB_refl]))
          go_ret
          exact ⟨rfl, belowN HU17.out⟩
end Go.Proofs.Ytbjfigegiffefaa
