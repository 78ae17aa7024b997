/- A step of the law, behind the search in the list. -/
import Derived.Test.YtbjfigegiffefaaRkDone1
set_option linter.unusedVariables false
set_option linter.unusedSimpArgs false
namespace Go.Proofs.Ytbjfigegiffefaa
open Go.RowKit Pantry

/-- Where the list's entry of this name stands: nowhere (-1), or there. -/
def AtIs (L : List Mb) (key : List UInt8) (at_ : Int) : Prop := ((∀ p ∈ L, p.1 ≠ key) ∧ at_ = -1) ∨ ∃ (i y : Nat), L[i]? = some (key, y) ∧ at_ = i
structure TailIn (w : World) (r : Nat) (S : Nat → Prop) (l L : List Mb) (a : Option Addr) (n c b : Nat) (o : Stp) (at_ : Int) : Prop where
  rk : Rk w r S l
  perm : L.Perm l
  own : w.ownsRow 0 41 2 (.slice a n c) n (rkCells L)
  len : L.length = n
  apart : ∀ k, (Value.slice a n c).ownBlock = some k → ¬ S k
  box : w.heap[b]? = some (.cells o.cells.toArray 52)
  boxS : ¬ S b
  ok : o.Ok
  at_ : AtIs L o.s at_
theorem TailIn.box_cells {w : World} {r : Nat} {S : Nat → Prop} {l L : List Mb} {a : Option Addr} {n c b : Nat} {o : Stp} {at_ : Int} (h : TailIn w r S l L a n c b o at_) :
    (w.cell? ⟨b, 1, none⟩ = some (.int .i64 o.act) ∧ w.cell? ⟨b, 4, none⟩ = some (.string ⟨o.s.toArray⟩) ∧ w.cell? ⟨b, 5, none⟩ = some (.int .u64 o.x)) ∧ n ≤ 1048576 :=
  ⟨⟨cell_of_row w b 1 _ _ _ h.box, cell_of_row w b 4 _ _ _ h.box, cell_of_row w b 5 _ _ _ h.box⟩, by rw [← h.len, h.perm.length_eq]; exact h.rk.good.few⟩
theorem TailIn.after {w w' : World} {r : Nat} {S : Nat → Prop} {l L : List Mb} {a : Option Addr} {n c b : Nat} {o : Stp} {at_ : Int} (h : TailIn w r S l L a n c b o at_) (hc : Chg S w w') :
    (w'.cell? ⟨b, 4, none⟩ = some (.string ⟨o.s.toArray⟩) ∧ w'.cell? ⟨b, 5, none⟩ = some (.int .u64 o.x)) ∧ w'.ownsRow 0 41 2 (.slice a n c) n (rkCells L) := by
  have hb := hc.heap h.box h.boxS
  exact ⟨⟨cell_of_row w' b 4 _ _ _ hb, cell_of_row w' b 5 _ _ _ hb⟩, Chg.ownsRow h.own hc h.apart⟩
theorem at_none {L l : List Mb} {key : List UInt8} {at_ : Int} (h : AtIs L key at_) (hp : L.Perm l) (hk : ∀ p ∈ l, p.1 ≠ key) : at_ = -1 := by
  rcases h with ⟨-, h⟩ | ⟨i, y, hi, -⟩
  · exact h
  · exact absurd rfl (hk _ (hp.mem_iff.1 (List.mem_of_getElem? hi)))
theorem at_some {L l : List Mb} {key : List UInt8} {at_ : Int} (h : AtIs L key at_) (hp : L.Perm l) (hn : (l.map (·.1)).Nodup) {y : Nat} (hy : (key, y) ∈ l) : ∃ i : Nat, L[i]? = some (key, y) ∧ at_ = i := by
  rcases h with ⟨h, -⟩ | ⟨i, y', hi, rfl⟩
  · exact absurd rfl (h _ (hp.mem_iff.2 hy))
  · have : (L.map (·.1)).Nodup := (hp.map _).nodup_iff.2 hn
    rw [key_uniq this (List.mem_of_getElem? hi) (hp.mem_iff.2 hy)] at hi
    exact ⟨i, hi, rfl⟩
/-- An entry of the list, its cells. -/
theorem own_entry {w : World} {a : Option Addr} {n c : Nat} {L : List Mb} (h : w.ownsRow 0 41 2 (.slice a n c) n (rkCells L)) {i : Nat} {p : Mb} (hi : L[i]? = some p) :
    ∃ g, a = some ⟨g, 0, none⟩ ∧ (w.cell? ⟨g, i * 2, none⟩ = some (.string ⟨p.1.toArray⟩) ∧ w.cell? ⟨g, i * 2 + 1, none⟩ = some (.float .f64 p.2)) ∧ (∀ j, w.frozen? ⟨g, j, none⟩ = false) ∧ n ≤ c ∧ i < n := by
  have hil := (List.getElem?_eq_some_iff.1 hi).1
  have hlen := h.1
  rw [rkCells_length] at hlen
  rcases h.2 with ⟨hv, hn⟩ | ⟨g, cap, cur, hv, h1, h2, h3, h4, h5, h6⟩
  · omega
  · cases hv
    refine ⟨g, rfl, ⟨?_, ?_⟩, fun j => h.frozenAt j, h3, by omega⟩
    · rw [h.cellAt _ (by omega), show i * 2 = i * 2 + 0 from rfl, rkCells_get hi 0 (by omega)]; rfl
    · rw [h.cellAt _ (by omega), rkCells_get hi 1 (by omega)]; rfl
theorem f_ne {x y : Nat} (hx : ¬ fnan x) (hy : ¬ fnan y) : (FloatKind.f64.format.order x y != some .eq) = !decide (fkey x = fkey y) := by
  have := f_eq hx hy
  simp only [bne, this]
theorem stepL_set {l l' : List Mb} {o : Stp} {new : Bool} {code : Int} (ha : o.act = 0) (h : SetC l o.s o.x l' new code) (hn : (l.map (·.1)).Nodup) : stepL l o = l' := by
  unfold stepL
  rw [if_pos ha, setC_fn h hn]
theorem stepL_del {l : List Mb} {o : Stp} (ha : o.act = 1) {i y : Nat} (h : l[i]? = some (o.s, y)) (hn : (l.map (·.1)).Nodup) : stepL l o = cutR l i := by
  unfold stepL
  rw [if_neg (by omega), if_pos ha, dropKey_cut hn h]
theorem dropKey_no {l : List Mb} {key : List UInt8} (h : ∀ p ∈ l, p.1 ≠ key) : dropKey l key = l := by
  unfold dropKey
  exact List.filter_eq_self.2 fun p hp => by simpa using h p hp
set_option maxHeartbeats 8000000 in
set_option maxRecDepth 100000 in
theorem done_set (w1 : World) (r : Nat) (S : Nat → Prop) (l L : List Mb) (a : Option Addr) (n c b : Nat) (o : Stp) (at_ : Int) (h : TailIn w1 r S l L a n c b o at_) (ha : o.act = 0) (u2 u3 u4 u6 u7 u9 u10 u11 u12 u13 u14 u15 u16 u17 u18 u19 u20 u21 u22 u23 u24 u25 u26 u27 u28 u29 u30 u31 u32 u33 u34 u35 u36 u37 u38 u39 u40 u41 u42 u43 u44 u45 u46 u47 u48 u49 u50 u51 u52 u53 u54 u55 u56 u57 u58 u59 u60 u61 u62 u63 u64 u65 u66 u67 u68 u69 u70 u71 u72 u73 u74 u75 u76 u77 u78 u79 u80 u81 u82 u83 u84 u85 u86 u87 u88 u89 u90 u91 u92 u93 u94 u95 u96 u97 u98 u99 u100 u101 u102 u103 u104 u105 u106 u107 u108 u109 u110 u111 u112 u113 u114 u115 u116 u117 u118 u119 u120 u121 u122 u123 u124 u125 u126 u127 u128 u129 u130 u131 u132 u133 u134 u135 u136 u137 u138 : Value) :
    ∀ cc, cfst (cskip 3 (cbody Try.f22)) = cc → ∀ cr, csnd (cskip 3 (cbody Try.f22)) = cr → ∀ R : Ending → World → Prop, Hid (∀ e w', DonePost r S (.slice a n c) l o w1 e w' → R e w') → ∀ K : Act → World → Prop, (∀ x y, Code.wp Try.prog cr (bodyPost Try.prog Try.f22 R) x y → K x y) →
      Code.wp Try.prog cc (Exit.then K (bodyPost Try.prog Try.f22 R)) { tmps := #[.pointer (some ⟨r, 0, none⟩), .slice a n c, u2, u3, u4, .pointer (some ⟨b, 0, none⟩), u6, u7, .int .i64 at_, u9, u10, u11, u12, u13, u14, u15, u16, u17, u18, u19, u20, u21, u22, u23, u24, u25, u26, u27, u28, u29, u30, u31, u32, u33, u34, u35, u36, u37, u38, u39, u40, u41, u42, u43, u44, u45, u46, u47, u48, u49, u50, u51, u52, u53, u54, u55, u56, u57, u58, u59, u60, u61, u62, u63, u64, u65, u66, u67, u68, u69, u70, u71, u72, u73, u74, u75, u76, u77, u78, u79, u80, u81, u82, u83, u84, u85, u86, u87, u88, u89, u90, u91, u92, u93, u94, u95, u96, u97, u98, u99, u100, u101, u102, u103, u104, u105, u106, u107, u108, u109, u110, u111, u112, u113, u114, u115, u116, u117, u118, u119, u120, u121, u122, u123, u124, u125, u126, u127, u128, u129, u130, u131, u132, u133, u134, u135, u136, u137, u138], defers := [] } w1 := by
  have H := Lib.hid h
  obtain ⟨⟨b1, b4, b5⟩, hnl⟩ := h.box_cells
  have hfb := frombits
  clear h
  have HSET := Lib.hid (H.out.rk.set o.s o.x H.out.ok.s)
  have HA := Lib.hid ha
  rw [ha] at b1
  clear ha
  intro cc hcc cr hcr R hR K hK
  conv at hcc => lhs; whnf
  conv at hcr => lhs; whnf
  subst hcc hcr
  dsimp only
  go_wp2_with fail
  refine HSET.out.mono ?_
  rintro e w2 ⟨l', new, code, hC, rfl, hto⟩
  obtain ⟨⟨d4, d5⟩, hown⟩ := H.out.after hto.chg
  have HO := Lib.hid hown
  have HST := Lib.hid (stepL_set HA.out hC H.out.rk.keys)
  have HTO : Hid (RkTo r S (stepL l o) w1 w2) := Lib.hid (by rw [HST.out]; exact hto)
  clear b1 b4 b5 HSET hto hown
  cases hC with
  | long hlen =>
    have HE : Hid (DoneTo r S (.slice a n c) l o w1 (.slice a n c) w2) := Lib.hid (DoneTo.rank (L := L) HTO.out (by rw [HST.out]; exact H.out.perm) (by rw [H.out.len]; exact H.out.own) H.out.apart)
    go_wp2_with fail
    exact hR.out _ _ ⟨_, rfl, HE.out⟩
  | nan hlen hx =>
    have HE : Hid (DoneTo r S (.slice a n c) l o w1 (.slice a n c) w2) := Lib.hid (DoneTo.rank (L := L) HTO.out (by rw [HST.out]; exact H.out.perm) (by rw [H.out.len]; exact H.out.own) H.out.apart)
    have hlen2 : ¬ 1048576 < o.s.length := by omega
    have hf := f_self (x := o.x)
    rw [decide_eq_true hx] at hf
    clear hx
    go_wp2_with fail
    exact hR.out _ _ ⟨_, rfl, HE.out⟩
  | full hlen hx hk hf =>
    have HE : Hid (DoneTo r S (.slice a n c) l o w1 (.slice a n c) w2) := Lib.hid (DoneTo.rank (L := L) HTO.out (by rw [HST.out]; exact H.out.perm) (by rw [H.out.len]; exact H.out.own) H.out.apart)
    have hlen2 : ¬ 1048576 < o.s.length := by omega
    have hs := f_self (x := o.x)
    rw [decide_eq_false hx] at hs
    obtain rfl := at_none H.out.at_ H.out.perm hk
    have hnf : decide ((1048576 : Int) ≤ (n : Int)) = true := by
      rw [← H.out.perm.length_eq, H.out.len] at hf
      simp; omega
    clear hx hk hf
    go_wp2_with fail
    exact hR.out _ _ ⟨_, rfl, HE.out⟩
  | same hlen hx y hy he =>
    have HE : Hid (DoneTo r S (.slice a n c) l o w1 (.slice a n c) w2) := Lib.hid (DoneTo.rank (L := L) HTO.out (by rw [HST.out]; exact H.out.perm) (by rw [H.out.len]; exact H.out.own) H.out.apart)
    have hlen2 : ¬ 1048576 < o.s.length := by omega
    have hs := f_self (x := o.x)
    rw [decide_eq_false hx] at hs
    obtain ⟨i, hi, rfl⟩ := at_some H.out.at_ H.out.perm H.out.rk.keys hy
    obtain ⟨g, rfl, ⟨e0, e1⟩, ef, hnc, hin⟩ := own_entry HO.out hi
    have hne := f_ne (H.out.rk.good.num _ hy) hx
    rw [decide_eq_true he] at hne
    have hneg : decide ((i : Int) < 0) = false := by simp
    have hneg2 : ¬ (i : Int) < 0 := by omega
    clear hx hy he hi
    go_wp2_with fail
    exact hR.out _ _ ⟨_, rfl, HE.out⟩
  | moved hlen hx i' y j hy he hj =>
    have hlen2 : ¬ 1048576 < o.s.length := by omega
    have hs := f_self (x := o.x)
    rw [decide_eq_false hx] at hs
    obtain ⟨i, hi, rfl⟩ := at_some H.out.at_ H.out.perm H.out.rk.keys (List.mem_of_getElem? hy)
    obtain ⟨g, rfl, ⟨e0, e1⟩, ef, hnc, hin⟩ := own_entry HO.out hi
    have ef1 := ef (i * 2 + 1)
    have hne := f_ne (H.out.rk.good.num _ (List.mem_of_getElem? hy)) hx
    rw [decide_eq_false he] at hne
    have hneg : decide ((i : Int) < 0) = false := by simp
    have hneg2 : ¬ (i : Int) < 0 := by omega
    have HE : Hid (DoneTo r S (.slice (some ⟨g, 0, none⟩) n c) l o w1 (.slice (some ⟨g, 0, none⟩) n c) (w2.setCell ⟨g, i * 2 + 1, none⟩ (.float .f64 o.x))) := Lib.hid (by
      have hst := HO.out.stored (i * 2 + 1) (.float .f64 o.x)
      rw [rkCells_set1 L hi] at hst
      refine DoneTo.list HTO.out (L' := L.set i (o.s, o.x)) (by rw [HST.out]; exact set_perm H.out.perm hi hy) (by rw [H.out.len]; exact H.out.own) H.out.apart (by rw [List.length_set, H.out.len]; exact hst.1) (Chg.of_grown hst.2 fun k hk => by cases hk; rfl) (fun k hk => .inl hk))
    clear hx hy he hi ef hj
    go_wp2_with fail
    exact hR.out _ _ ⟨_, rfl, HE.out⟩
  | fresh hlen hx hk hf j hj =>
    have hlen2 : ¬ 1048576 < o.s.length := by omega
    have hs := f_self (x := o.x)
    rw [decide_eq_false hx] at hs
    obtain rfl := at_none H.out.at_ H.out.perm hk
    have hnf : decide ((1048576 : Int) ≤ (n : Int)) = false := by
      rw [← H.out.perm.length_eq, H.out.len] at hf
      simp; omega
    have HP : Hid ((L ++ [(o.s, o.x)]).Perm (stepL l o)) := Lib.hid (by
      rw [HST.out]
      exact (List.perm_append_comm.trans ((H.out.perm.cons _).trans (ins_perm l j _).symm)))
    have HT := Lib.hid entT
    clear hx hk hf hj
    go_wp2_with (at_builtin; refine wpl_append1 HT.out rfl _ _ rfl 0 rfl HO.out #[.string ⟨o.s.toArray⟩, .float .f64 o.x] rfl rfl (by simp [Value.oneCell']) (by omega) (Nat.zero_le _) ?_
                 intro v' w3 hown3 hg3 _hb3 hv3
                 have HE : Hid (DoneTo r S (.slice a n c) l o w1 v' w3) := Lib.hid (DoneTo.list HTO.out HP.out (by rw [H.out.len]; exact H.out.own) H.out.apart (by rw [List.length_append, H.out.len, rkCells_append]; exact hown3) (Chg.of_grown hg3 fun k hk => hk) hv3)
                 obtain ⟨a3, c3, rfl, -⟩ := ownsRow_rd hown3 (by rw [show (#[Value.string ⟨o.s.toArray⟩, Value.float .f64 o.x] : Array Value).toList = rkCells [(o.s, o.x)] from rfl, ← rkCells_append]; exact rkCells_one _)
                 clear hown3 hg3 hv3)
    exact hR.out _ _ ⟨_, rfl, HE.out⟩
set_option maxHeartbeats 8000000 in
set_option maxRecDepth 100000 in
theorem done_del (w1 : World) (r : Nat) (S : Nat → Prop) (l L : List Mb) (a : Option Addr) (n c b : Nat) (o : Stp) (at_ : Int) (h : TailIn w1 r S l L a n c b o at_) (ha : o.act = 1) (u2 u3 u4 u6 u7 u9 u10 u11 u12 u13 u14 u15 u16 u17 u18 u19 u20 u21 u22 u23 u24 u25 u26 u27 u28 u29 u30 u31 u32 u33 u34 u35 u36 u37 u38 u39 u40 u41 u42 u43 u44 u45 u46 u47 u48 u49 u50 u51 u52 u53 u54 u55 u56 u57 u58 u59 u60 u61 u62 u63 u64 u65 u66 u67 u68 u69 u70 u71 u72 u73 u74 u75 u76 u77 u78 u79 u80 u81 u82 u83 u84 u85 u86 u87 u88 u89 u90 u91 u92 u93 u94 u95 u96 u97 u98 u99 u100 u101 u102 u103 u104 u105 u106 u107 u108 u109 u110 u111 u112 u113 u114 u115 u116 u117 u118 u119 u120 u121 u122 u123 u124 u125 u126 u127 u128 u129 u130 u131 u132 u133 u134 u135 u136 u137 u138 : Value) :
    ∀ cc, cfst (cskip 3 (cbody Try.f22)) = cc → ∀ cr, csnd (cskip 3 (cbody Try.f22)) = cr → ∀ R : Ending → World → Prop, Hid (∀ e w', DonePost r S (.slice a n c) l o w1 e w' → R e w') → ∀ K : Act → World → Prop, (∀ x y, Code.wp Try.prog cr (bodyPost Try.prog Try.f22 R) x y → K x y) →
      Code.wp Try.prog cc (Exit.then K (bodyPost Try.prog Try.f22 R)) { tmps := #[.pointer (some ⟨r, 0, none⟩), .slice a n c, u2, u3, u4, .pointer (some ⟨b, 0, none⟩), u6, u7, .int .i64 at_, u9, u10, u11, u12, u13, u14, u15, u16, u17, u18, u19, u20, u21, u22, u23, u24, u25, u26, u27, u28, u29, u30, u31, u32, u33, u34, u35, u36, u37, u38, u39, u40, u41, u42, u43, u44, u45, u46, u47, u48, u49, u50, u51, u52, u53, u54, u55, u56, u57, u58, u59, u60, u61, u62, u63, u64, u65, u66, u67, u68, u69, u70, u71, u72, u73, u74, u75, u76, u77, u78, u79, u80, u81, u82, u83, u84, u85, u86, u87, u88, u89, u90, u91, u92, u93, u94, u95, u96, u97, u98, u99, u100, u101, u102, u103, u104, u105, u106, u107, u108, u109, u110, u111, u112, u113, u114, u115, u116, u117, u118, u119, u120, u121, u122, u123, u124, u125, u126, u127, u128, u129, u130, u131, u132, u133, u134, u135, u136, u137, u138], defers := [] } w1 := by
  have H := Lib.hid h
  obtain ⟨⟨b1, b4, b5⟩, hnl⟩ := h.box_cells
  have hfb := frombits
  clear h
  have HDEL := Lib.hid (H.out.rk.del o.s H.out.ok.s)
  have HA := Lib.hid ha
  rw [ha] at b1
  clear ha
  intro cc hcc cr hcr R hR K hK
  conv at hcc => lhs; whnf
  conv at hcr => lhs; whnf
  subst hcc hcr
  dsimp only
  go_wp2_with fail
  refine HDEL.out.mono ?_
  rintro e w2 (⟨i', y, hy, rfl, hto⟩ | ⟨hk, rfl, hto⟩)
  · obtain ⟨⟨d4, d5⟩, hown⟩ := H.out.after hto.chg
    have HO := Lib.hid hown
    have HST := Lib.hid (stepL_del HA.out hy H.out.rk.keys)
    have HTO : Hid (RkTo r S (stepL l o) w1 w2) := Lib.hid (by rw [HST.out]; exact hto)
    obtain ⟨i, hi, rfl⟩ := at_some H.out.at_ H.out.perm H.out.rk.keys (List.mem_of_getElem? hy)
    obtain ⟨g, rfl, ⟨e0, e1⟩, ef, hnc, hin⟩ := own_entry HO.out hi
    obtain ⟨m, rfl⟩ : ∃ m, n = m + 1 := ⟨n - 1, by omega⟩
    obtain ⟨z, hz⟩ : ∃ z, L[m]? = some z := ⟨_, List.getElem?_eq_getElem (by have := H.out.len; omega)⟩
    obtain ⟨g', hg', ⟨e2, e3⟩, -, -, -⟩ := own_entry HO.out hz
    cases hg'
    have ef0 := ef (i * 2)
    have ef1 := ef (i * 2 + 1)
    have hneg : decide ((i : Int) < 0) = false := by simp
    have hneg2 : ¬ (i : Int) < 0 := by omega
    have HE : Hid (DoneTo r S (.slice (some ⟨g, 0, none⟩) (m + 1) c) l o w1 (.slice (some ⟨g, 0, none⟩) m c) ((w2.setCell ⟨g, i * 2, none⟩ (.string ⟨z.1.toArray⟩)).setCell ⟨g, i * 2 + 1, none⟩ (.float .f64 z.2))) := Lib.hid (by
      have hs1 := HO.out.stored (i * 2) (.string ⟨z.1.toArray⟩)
      have hs2 := hs1.1.stored (i * 2 + 1) (.float .f64 z.2)
      rw [rkCells_set2 L (by have := H.out.len; omega)] at hs2
      have hs3 := own_short hs2.1 (Nat.le_succ m)
      rw [rkCells_take] at hs3
      have hl : ((L.set i z).take m).length = m := by rw [List.length_take, List.length_set, H.out.len]; omega
      refine DoneTo.list HTO.out (L' := (L.set i z).take m) ?_ (by rw [H.out.len]; exact H.out.own) H.out.apart (by rw [hl]; exact hs3) ((Chg.of_grown hs1.2 fun k hk => by cases hk; rfl).trans (Chg.of_grown hs2.2 (S := fun k => some k = some g) fun k hk => by cases hk; rfl) fun k _ hk => by cases hk; rfl) (fun k hk => .inl hk)
      rw [HST.out]
      have := drop_perm H.out.perm hi hy (z := z) (by rw [H.out.len]; exact hz)
      rwa [H.out.len] at this)
    clear b1 b4 b5 HDEL hto hown hy hi hz ef
    go_wp2_with fail
    exact hR.out _ _ ⟨_, rfl, HE.out⟩
  · obtain ⟨⟨d4, d5⟩, hown⟩ := H.out.after hto.chg
    have HST : Hid (stepL l o = l) := Lib.hid (by unfold stepL; rw [if_neg (by rw [HA.out]; decide), if_pos HA.out, dropKey_no hk])
    have HE : Hid (DoneTo r S (.slice a n c) l o w1 (.slice a n c) w2) := Lib.hid (DoneTo.rank (L := L) (by rw [HST.out]; exact hto) (by rw [HST.out]; exact H.out.perm) (by rw [H.out.len]; exact H.out.own) H.out.apart)
    obtain rfl := at_none H.out.at_ H.out.perm hk
    clear b1 b4 b5 HDEL hto hown hk
    go_wp2_with fail
    exact hR.out _ _ ⟨_, rfl, HE.out⟩
set_option maxHeartbeats 8000000 in
set_option maxRecDepth 100000 in
theorem done_else (w1 : World) (r : Nat) (S : Nat → Prop) (l L : List Mb) (a : Option Addr) (n c b : Nat) (o : Stp) (at_ : Int) (h : TailIn w1 r S l L a n c b o at_) (ha : o.act ≠ 0) (hb : o.act ≠ 1) (u2 u3 u4 u6 u7 u9 u10 u11 u12 u13 u14 u15 u16 u17 u18 u19 u20 u21 u22 u23 u24 u25 u26 u27 u28 u29 u30 u31 u32 u33 u34 u35 u36 u37 u38 u39 u40 u41 u42 u43 u44 u45 u46 u47 u48 u49 u50 u51 u52 u53 u54 u55 u56 u57 u58 u59 u60 u61 u62 u63 u64 u65 u66 u67 u68 u69 u70 u71 u72 u73 u74 u75 u76 u77 u78 u79 u80 u81 u82 u83 u84 u85 u86 u87 u88 u89 u90 u91 u92 u93 u94 u95 u96 u97 u98 u99 u100 u101 u102 u103 u104 u105 u106 u107 u108 u109 u110 u111 u112 u113 u114 u115 u116 u117 u118 u119 u120 u121 u122 u123 u124 u125 u126 u127 u128 u129 u130 u131 u132 u133 u134 u135 u136 u137 u138 : Value) :
    ∀ cc, cfst (cskip 3 (cbody Try.f22)) = cc → ∀ cr, csnd (cskip 3 (cbody Try.f22)) = cr → ∀ R : Ending → World → Prop, Hid (∀ e w', DonePost r S (.slice a n c) l o w1 e w' → R e w') → ∀ K : Act → World → Prop, (∀ x y, Code.wp Try.prog cr (bodyPost Try.prog Try.f22 R) x y → K x y) →
      Code.wp Try.prog cc (Exit.then K (bodyPost Try.prog Try.f22 R)) { tmps := #[.pointer (some ⟨r, 0, none⟩), .slice a n c, u2, u3, u4, .pointer (some ⟨b, 0, none⟩), u6, u7, .int .i64 at_, u9, u10, u11, u12, u13, u14, u15, u16, u17, u18, u19, u20, u21, u22, u23, u24, u25, u26, u27, u28, u29, u30, u31, u32, u33, u34, u35, u36, u37, u38, u39, u40, u41, u42, u43, u44, u45, u46, u47, u48, u49, u50, u51, u52, u53, u54, u55, u56, u57, u58, u59, u60, u61, u62, u63, u64, u65, u66, u67, u68, u69, u70, u71, u72, u73, u74, u75, u76, u77, u78, u79, u80, u81, u82, u83, u84, u85, u86, u87, u88, u89, u90, u91, u92, u93, u94, u95, u96, u97, u98, u99, u100, u101, u102, u103, u104, u105, u106, u107, u108, u109, u110, u111, u112, u113, u114, u115, u116, u117, u118, u119, u120, u121, u122, u123, u124, u125, u126, u127, u128, u129, u130, u131, u132, u133, u134, u135, u136, u137, u138], defers := [] } w1 := by
  have H := Lib.hid h
  obtain ⟨⟨b1, b4, b5⟩, hnl⟩ := h.box_cells
  have hfb := frombits
  clear h
  have HE : Hid (DoneTo r S (.slice a n c) l o w1 (.slice a n c) w1) := Lib.hid (by
    have hst : stepL l o = l := by unfold stepL; rw [if_neg ha, if_neg hb]
    exact DoneTo.rank (L := L) (by rw [hst]; exact ⟨⟨S, H.out.rk, fun k hk => .inl hk⟩, Chg.refl _ _⟩) (by rw [hst]; exact H.out.perm) (by rw [H.out.len]; exact H.out.own) H.out.apart)
  have h0 : (o.act == 0) = false := by simpa using ha
  have h1 : (o.act == 1) = false := by simpa using hb
  clear ha hb
  intro cc hcc cr hcr R hR K hK
  conv at hcc => lhs; whnf
  conv at hcr => lhs; whnf
  subst hcc hcr
  dsimp only
  go_wp2_with fail
  exact hR.out _ _ ⟨_, rfl, HE.out⟩
theorem done_tail (w1 : World) (r : Nat) (S : Nat → Prop) (l L : List Mb) (a : Option Addr) (n c b : Nat) (o : Stp) (at_ : Int) (h : TailIn w1 r S l L a n c b o at_) (u2 u3 u4 u6 u7 u9 u10 u11 u12 u13 u14 u15 u16 u17 u18 u19 u20 u21 u22 u23 u24 u25 u26 u27 u28 u29 u30 u31 u32 u33 u34 u35 u36 u37 u38 u39 u40 u41 u42 u43 u44 u45 u46 u47 u48 u49 u50 u51 u52 u53 u54 u55 u56 u57 u58 u59 u60 u61 u62 u63 u64 u65 u66 u67 u68 u69 u70 u71 u72 u73 u74 u75 u76 u77 u78 u79 u80 u81 u82 u83 u84 u85 u86 u87 u88 u89 u90 u91 u92 u93 u94 u95 u96 u97 u98 u99 u100 u101 u102 u103 u104 u105 u106 u107 u108 u109 u110 u111 u112 u113 u114 u115 u116 u117 u118 u119 u120 u121 u122 u123 u124 u125 u126 u127 u128 u129 u130 u131 u132 u133 u134 u135 u136 u137 u138 : Value) :
    ∀ cc, cfst (cskip 3 (cbody Try.f22)) = cc → ∀ cr, csnd (cskip 3 (cbody Try.f22)) = cr → ∀ R : Ending → World → Prop, Hid (∀ e w', DonePost r S (.slice a n c) l o w1 e w' → R e w') → ∀ K : Act → World → Prop, (∀ x y, Code.wp Try.prog cr (bodyPost Try.prog Try.f22 R) x y → K x y) →
      Code.wp Try.prog cc (Exit.then K (bodyPost Try.prog Try.f22 R)) { tmps := #[.pointer (some ⟨r, 0, none⟩), .slice a n c, u2, u3, u4, .pointer (some ⟨b, 0, none⟩), u6, u7, .int .i64 at_, u9, u10, u11, u12, u13, u14, u15, u16, u17, u18, u19, u20, u21, u22, u23, u24, u25, u26, u27, u28, u29, u30, u31, u32, u33, u34, u35, u36, u37, u38, u39, u40, u41, u42, u43, u44, u45, u46, u47, u48, u49, u50, u51, u52, u53, u54, u55, u56, u57, u58, u59, u60, u61, u62, u63, u64, u65, u66, u67, u68, u69, u70, u71, u72, u73, u74, u75, u76, u77, u78, u79, u80, u81, u82, u83, u84, u85, u86, u87, u88, u89, u90, u91, u92, u93, u94, u95, u96, u97, u98, u99, u100, u101, u102, u103, u104, u105, u106, u107, u108, u109, u110, u111, u112, u113, u114, u115, u116, u117, u118, u119, u120, u121, u122, u123, u124, u125, u126, u127, u128, u129, u130, u131, u132, u133, u134, u135, u136, u137, u138], defers := [] } w1 := by
  by_cases h0 : o.act = 0
  · exact done_set w1 r S l L a n c b o at_ h h0 _ _ _ _ _ _ _ _ _ _ _ _ _ _ _ _ _ _ _ _ _ _ _ _ _ _ _ _ _ _ _ _ _ _ _ _ _ _ _ _ _ _ _ _ _ _ _ _ _ _ _ _ _ _ _ _ _ _ _ _ _ _ _ _ _ _ _ _ _ _ _ _ _ _ _ _ _ _ _ _ _ _ _ _ _ _ _ _ _ _ _ _ _ _ _ _ _ _ _ _ _ _ _ _ _ _ _ _ _ _ _ _ _ _ _ _ _ _ _ _ _ _ _ _ _ _ _ _ _ _ _ _ _ _ _
  · by_cases h1 : o.act = 1
    · exact done_del w1 r S l L a n c b o at_ h h1 _ _ _ _ _ _ _ _ _ _ _ _ _ _ _ _ _ _ _ _ _ _ _ _ _ _ _ _ _ _ _ _ _ _ _ _ _ _ _ _ _ _ _ _ _ _ _ _ _ _ _ _ _ _ _ _ _ _ _ _ _ _ _ _ _ _ _ _ _ _ _ _ _ _ _ _ _ _ _ _ _ _ _ _ _ _ _ _ _ _ _ _ _ _ _ _ _ _ _ _ _ _ _ _ _ _ _ _ _ _ _ _ _ _ _ _ _ _ _ _ _ _ _ _ _ _ _ _ _ _ _ _ _ _ _
    · exact done_else w1 r S l L a n c b o at_ h h0 h1 _ _ _ _ _ _ _ _ _ _ _ _ _ _ _ _ _ _ _ _ _ _ _ _ _ _ _ _ _ _ _ _ _ _ _ _ _ _ _ _ _ _ _ _ _ _ _ _ _ _ _ _ _ _ _ _ _ _ _ _ _ _ _ _ _ _ _ _ _ _ _ _ _ _ _ _ _ _ _ _ _ _ _ _ _ _ _ _ _ _ _ _ _ _ _ _ _ _ _ _ _ _ _ _ _ _ _ _ _ _ _ _ _ _ _ _ _ _ _ _ _ _ _ _ _ _ _ _ _ _ _ _ _ _ _
end Go.Proofs.Ytbjfigegiffefaa
