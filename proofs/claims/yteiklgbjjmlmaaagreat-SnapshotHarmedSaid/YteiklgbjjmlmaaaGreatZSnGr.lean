
/- The law's own great (printed by tools/gen-great.py). -/
import Derived.Test.YteiklgbjjmlmaaaGreatZSnRg2
set_option linter.unusedVariables false
set_option linter.unusedSimpArgs false
namespace Pantry
end Pantry
namespace Go.Proofs.YteiklgbjjmlmaaaGreat
open Go.RowKit Pantry

end Go.Proofs.YteiklgbjjmlmaaaGreat


/- SnapshotBack's walk: keys that may be saved are loaded as they were saved; what is loaded is saved as the same bytes. -/
set_option linter.unusedVariables false
set_option linter.unusedSimpArgs false
namespace Pantry
end Pantry
namespace Go.Proofs.YteiklgbjjmlmaaaGreat
open Go.RowKit Pantry

theorem RightL.save {t : Nat} {l : List SE} (h : RightL l) (ht : t ≤ 9007199254740992) : (saveR (t : Int) l = .error 2 ∧ 16777216 < (bodyB t l).length + 8) ∨ ∃ b, saveR (t : Int) l = .ok b := by
  unfold saveR
  rw [if_neg (by omega), h.right, if_neg (by simp), Int.toNat_natCast]
  by_cases hb : 16777216 < (bodyB t l).length + 8
  · rw [if_pos hb]; exact .inl ⟨rfl, hb⟩
  · rw [if_neg hb]; exact .inr ⟨_, rfl⟩
theorem saved_len {t : Nat} {l : List SE} {b : List UInt8} (h : saveR (t : Int) l = .ok b) : b.length ≤ 16777216 ∧ 18 ≤ b.length := by
  obtain ⟨h1, h2, h3, rfl⟩ := saveR_ok h
  rw [List.length_append, eightB_len]
  have n1 : ∀ n, 1 ≤ (numB n).length := fun n => List.length_pos_iff.2 (numF_ne _ _)
  have := n1 (t : Int).toNat
  have := n1 l.length
  have e : headB.length = 8 := rfl
  refine ⟨by omega, ?_⟩
  unfold bodyB
  simp only [List.length_append, e]
  omega
attribute [-go_sem] Builtin.append_
end Go.Proofs.YteiklgbjjmlmaaaGreat


/- SnapshotHarmed's walk: bits of a snapshot turned within 64 bits beside one another: it is refused. -/
set_option linter.unusedVariables false
set_option linter.unusedSimpArgs false
namespace Pantry
open Go Go.RowKit
/-- A byte of a row is written. -/
theorem ownB_set {w : World} {base g n cap : Nat} {e : TypeId} {l : List UInt8} (h : OwnB w base e (.slice (some ⟨g, 0, none⟩) n cap) l) {i : Nat} {x : UInt8} (hx : l[i]? = some x) :
    w.cell? ⟨g, i, none⟩ = some (.int .u8 (x.toNat : Int)) ∧ w.frozen? ⟨g, i, none⟩ = false ∧ base ≤ g ∧ ∀ y : UInt8, OwnB (w.setCell ⟨g, i, none⟩ (.int .u8 (y.toNat : Int))) base e (.slice (some ⟨g, 0, none⟩) n cap) (l.set i y) := by
  have hi : i < l.length := (List.getElem?_eq_some_iff.1 hx).1
  rcases h with ⟨h0, -⟩ | ⟨g', cap', cur, fz, h0, hb, hg, hf, hl, hm, hs, ht⟩
  · cases h0
  · obtain ⟨h1, rfl, rfl⟩ := Value.slice.inj h0
    obtain rfl : g = g' := by injection h1 with h1; injection h1
    have hci : cur[i]? = some (.int .u8 (x.toNat : Int)) := by
      have h2 : (cur.toList.take l.length)[i]? = some (.int .u8 (x.toNat : Int)) := by rw [ht, b8_get, hx]; rfl
      rw [List.getElem?_take, if_pos hi] at h2
      simpa using h2
    have hfz : w.frozen? ⟨g, i, none⟩ = false := by
      obtain ⟨lo, hi2⟩ := fz
      simp only [World.frozen?, hg]
      rcases hf with hf | hf
      · cases hf; simp
      · simp only at hf; simp; omega
    refine ⟨(cell_of_row w g i _ _ _ hg).trans hci, hfz, hb, fun y => ?_⟩
    refine .inr ⟨g, cap, cur.setIfInBounds i (.int .u8 (y.toNat : Int)), fz, by rw [List.length_set], hb, ?_, hf, by rw [List.length_set]; exact hl, hm, by rw [Array.size_setIfInBounds]; exact hs, ?_⟩
    · rw [setCell_eq_setRow w g i _ _ fz _ hg]
      exact setRow_heap w g _ _ _ _ hg
    · rw [List.length_set, Array.toList_setIfInBounds, List.take_set, ht, b8_set]
theorem xor_byte : ∀ y : Nat, y < 256 → ∀ r : Nat, r < 8 → bits BinOp.xor IntKind.u8 (y : Int) (2 ^ r % 256) = ((y ^^^ 2 ^ r : Nat) : Int) := by decide +kernel
theorem pow_byte {r : Nat} (h : r < 8) : (UInt8.ofNat (2 ^ r)).toNat = 2 ^ r := by
  rw [UInt8.toNat_ofNat']
  have : 2 ^ r ≤ 2 ^ 7 := Nat.pow_le_pow_right (by decide) (by omega)
  exact Nat.mod_eq_of_lt (Nat.lt_of_le_of_lt this (by decide))
/-- One bit more is turned. -/
theorem turn_one {b c : List UInt8} {p m i k : Nat} (hk : k = p + i) (hl : k / 8 < c.length) (h : leN b ^^^ leN c = 2 ^ p * m) (hm : m < 2 ^ i) :
    leN b ^^^ leN (c.set (k / 8) (c.getD (k / 8) 0 ^^^ UInt8.ofNat (2 ^ (k % 8)))) = 2 ^ p * (m + 2 ^ i) ∧ m + 2 ^ i < 2 ^ (i + 1) ∧ m + 2 ^ i ≠ 0 := by
  have h2 : (UInt8.ofNat (2 ^ (k % 8))).toNat = 2 ^ (k % 8) := by
    rw [UInt8.toNat_ofNat']
    have : 2 ^ (k % 8) ≤ 2 ^ 7 := Nat.pow_le_pow_right (by decide) (by omega)
    exact Nat.mod_eq_of_lt (Nat.lt_of_le_of_lt this (by decide))
  have e1 : 256 ^ (k / 8) * 2 ^ (k % 8) = 2 ^ k := by
    rw [show (256 : Nat) = 2 ^ 8 from rfl, ← Nat.pow_mul, ← Nat.pow_add, Nat.div_add_mod]
  have hp : 0 < 2 ^ i := Nat.pos_of_ne_zero (by simp)
  refine ⟨?_, by rw [Nat.pow_succ]; omega, by omega⟩
  rw [leN_set _ _ _ hl, ← Nat.xor_assoc, h, h2, e1, hk, Nat.pow_add]
  have e2 : m ^^^ 2 ^ i = m + 2 ^ i := by
    have h3 := Nat.two_pow_add_eq_or_of_lt (i := i) (b := m) hm 1
    rw [Nat.mul_one] at h3
    have h4 : m &&& 2 ^ i = 0 := by
      apply Nat.eq_of_testBit_eq
      intro j
      rw [Nat.testBit_and, Nat.zero_testBit, Nat.testBit_two_pow]
      by_cases hij : i = j
      · subst hij
        rw [Nat.testBit_lt_two_pow hm]; rfl
      · simp [hij]
    have h5 := Nat.two_pow_add_eq_or_of_lt (i := i) (b := m) hm 1
    rw [Nat.mul_one] at h5
    have h6 : m ^^^ 2 ^ i = m ||| 2 ^ i := by
      apply Nat.eq_of_testBit_eq
      intro j
      have h7 := congrArg (Nat.testBit · j) h4
      simp only [Nat.testBit_and, Nat.zero_testBit] at h7
      rw [Nat.testBit_xor, Nat.testBit_or]
      cases hmj : m.testBit j <;> cases hij : (2 ^ i).testBit j <;> simp_all
    rw [h6, Nat.or_comm, ← h5, Nat.add_comm]
  have e3 := Nat.shiftLeft_xor_distrib (i := p) (a := m) (b := 2 ^ i)
  simp only [Nat.shiftLeft_eq] at e3
  rw [Nat.mul_comm (2 ^ p) m, Nat.mul_comm (2 ^ p) (2 ^ i), ← e3, e2, Nat.mul_comm]
end Pantry
namespace Go.Proofs.YteiklgbjjmlmaaaGreat
open Go.RowKit Pantry
attribute [-go_sem] Builtin.append_
set_option maxRecDepth 100000 in
set_option maxHeartbeats 16000000 in
theorem harmed_any (w : World) (now : Int) (hnow : -9223372036854775808 ≤ now ∧ now ≤ 9223372036854775807) (a : Option Addr) (n c : Nat) (l : List SE) (hl : l.length = n) (hn : n ≤ 1172812402926) (hr : SRow w a l) (hB : ∀ x ∈ l, PlainBig x.val) (hk : ∀ x ∈ l, x.key.length < 281474976710656)
    (hd : ∀ x ∈ l, -9223372036854775808 ≤ x.dl ∧ x.dl ≤ 9223372036854775807) (h64 : Bits64 l) (fr : Int) (hfr : -9223372036854775808 ≤ fr ∧ fr ≤ 9223372036854775807) (mask : Nat) (hmask : mask < 18446744073709551616) :
    Calls Tryz.prog 7 #[.int .i64 now, .slice a n c, .int .i64 fr, .int .u64 mask] w (SamePost true w) := by
  have HW := Lib.hid (wakes29_any w)
  have HRG := Lib.hid (fun w1 (hb : Below w.heap.size w w1) => lright_any w1 now hnow a n c l hl (by omega) (hr.below hb) hB hk hd h64)
  clear hl hr hB hk hd h64
  obtain ⟨f1, f2⟩ := hfr
  go_enter Tryz.func7, Tryz.ntmps7
  go_upto_region 4 with (first
    | (go_at_call 21; refine HW.out.mono ?_; rintro e w1 ⟨rfl, hb1⟩; have HB1 := Lib.hid hb1; have HR1 := Lib.hid (HRG.out w1 hb1); clear hb1)
    | (go_at_call 22; refine HR1.out.mono ?_; rintro e w2 ⟨t, L, v, rfl, ht, hb2, ho, hrl, hln⟩
       have HB2 := Lib.hid (HB1.out.trans (hb2.mono HB1.out.size))
       have HRL := Lib.hid hrl
       obtain ⟨ay, cy, rfl, hlc, hsr⟩ := ho.srow
       have HSR := Lib.hid hsr
       clear hb2 ho hrl hsr))
  clear HRG HR1 HW
  obtain ⟨m, hm⟩ : ∃ m, L.length = m := ⟨_, rfl⟩
  rw [hm] at hlc hln ⊢
  obtain ⟨L2, hL2⟩ : ∃ L2, L.map (·.1) = L2 := ⟨_, rfl⟩
  have HLM : Hid (L2.length = m) := Lib.hid (by rw [← hL2, List.length_map, hm])
  rw [hL2] at HRL HSR
  have HBG := Lib.hid (HRL.out.big (by rw [HLM.out]; omega))
  have HSV := Lib.hid (save_any w2 (t : Int) ay m cy L2 HLM.out hlc HSR.out HBG.out)
  clear hL2 hm
  rcases HRL.out.save ht with ⟨hsv, hlong⟩ | ⟨b, hsv⟩
  · rw [hsv] at HSV
    clear hsv hlong
    go_wp2_with (go_at_call 11; refine HSV.out.mono ?_; rintro e w3 ⟨hb3, rfl⟩; have HB3 := Lib.hid (HB2.out.trans (hb3.mono HB2.out.size)); clear hb3)
    go_ret
    exact ⟨rfl, HB3.out⟩
  · rw [hsv] at HSV
    obtain ⟨h24, h18⟩ := saved_len hsv
    have hld := save_load hsv HRL.out.bits
    rw [Int.toNat_natCast] at hld
    have HLD := Lib.hid hld
    obtain ⟨nb, hnb⟩ : ∃ nb, b.length = nb := ⟨_, rfl⟩
    rw [hnb] at h24 h18
    have HNB := Lib.hid hnb
    have hnz : ¬ (8 * (nb : Int)) = 0 := by omega
    obtain ⟨r, hr⟩ : ∃ r, fr.tmod (8 * (nb : Int)) = r := ⟨_, rfl⟩
    have hrb := tmod_bounds fr (8 * nb) (by omega)
    rw [show ((8 * nb : Nat) : Int) = 8 * (nb : Int) by omega, hr] at hrb
    obtain ⟨r1, r2⟩ := hrb
    clear hsv hld hnb
    go_upto_region 7 with (go_at_call 11; refine HSV.out.mono ?_; rintro e w3 ⟨hb3, vb, rfl, hob⟩
                           have HB3 := Lib.hid (HB2.out.trans (hb3.mono HB2.out.size))
                           have HB23 := Lib.hid hb3
                           obtain ⟨gb, cb, qn, rfl, hqn⟩ := hob.row (fun e => by have h := HNB.out; rw [e] at h; simp at h; omega)
                           rw [HNB.out] at hqn
                           obtain rfl : nb = qn := hqn.symm
                           have HOB := Lib.hid hob
                           clear HSV hb3 hob)
    obtain ⟨p, hp⟩ : ∃ p : Nat, (p : Int) = if r < 0 then r + 8 * (nb : Int) else r := ⟨(if r < 0 then r + 8 * (nb : Int) else r).toNat, by split <;> omega⟩
    have hpn : p < 8 * nb := by split at hp <;> omega
    by_cases hr0 : r < 0
    · rw [if_pos hr0] at hp
      have hpr : r + 8 * (nb : Int) = (p : Int) := hp.symm
      clear hp
      go_upto_region 10 with fail
      clear hpr hr
      have H0 := Lib.hid r1
      go_wp2_with fail
      go_loopw [14, 49] (fun tt i wx => ∃ (j t0 m0 : Nat) (cc : List UInt8), j ≤ 64 ∧ i = .int .i64 j ∧ tt = .int .i64 t0 ∧ t0 ≤ j ∧ Hid (t0 = 0 ↔ m0 = 0) ∧ Hid (cc.length = nb) ∧ Hid (OwnB wx w2.heap.size 5 (.slice (some ⟨gb, 0, none⟩) nb cb) cc) ∧ Hid (leN b ^^^ leN cc = 2 ^ p * m0) ∧ Hid (m0 < 2 ^ j) ∧ Hid (m0 = 0 → cc = b) ∧ Hid (Below w2.heap.size w2 wx)) (fun _ i _ => 64 - (intOf i).toNat)
      case atStart => exact ⟨0, 0, 0, b, by omega, rfl, rfl, Nat.le_refl _, Lib.hid (by simp), HNB, HOB, Lib.hid (by simp), Lib.hid (by decide), Lib.hid (fun _ => rfl), HB23⟩
      case round =>
        obtain ⟨j, t0, m0, cc, hj, rfl, rfl, htj, HTM, HCL, HOC, HLE, HML, HCB, HBX⟩ := hrel
        by_cases hlt : j < 64
        · have hlti : (j : Int) < 64 := by omega
          obtain ⟨kk, hkk⟩ : ∃ kk : Nat, (p : Int) + (j : Int) = (kk : Int) := ⟨p + j, by omega⟩
          by_cases hbit : bits BinOp.and IntKind.u64 ((mask : Int) / 2 ^ j) 1 = 1
          · by_cases hlen : kk < 8 * nb
            · have hleni : (kk : Int) < 8 * (nb : Int) := by omega
              obtain ⟨qk, hqk⟩ : ∃ qk, kk / 8 = qk := ⟨_, rfl⟩
              obtain ⟨rk, hrk⟩ : ∃ rk, kk % 8 = rk := ⟨_, rfl⟩
              have hq1 : (kk : Int).tdiv 8 = (qk : Int) := by rw [Int.tdiv_eq_ediv_of_nonneg (by omega)]; omega
              have hm1 : (kk : Int).tmod 8 = (rk : Int) := by rw [Int.tmod_eq_emod_of_nonneg (by omega)]; omega
              have hq2 : (kk : Int) / 8 = (qk : Int) := by omega
              have hm2 : (kk : Int) % 8 = (rk : Int) := by omega
              have hqn1 : qk < nb := by omega
              have hqn2 : (qk : Int) < (nb : Int) := by omega
              obtain ⟨y, hy⟩ : ∃ y, cc[qk]? = some y := ⟨_, List.getElem?_eq_getElem (by rw [HCL.out]; exact hqn1)⟩
              obtain ⟨g1, g2, g3, g4⟩ := ownB_set HOC.out hy
              obtain ⟨yn, hyn⟩ : ∃ yn, y.toNat = yn := ⟨_, rfl⟩
              rw [hyn] at g1
              have hrk8 : rk < 8 := by omega
              have hxor : bits BinOp.xor IntKind.u8 (yn : Int) (2 ^ rk % 256) = (((y ^^^ UInt8.ofNat (2 ^ rk)).toNat : Nat) : Int) := by
                rw [xor_byte yn (by rw [← hyn]; exact y.toNat_lt) rk hrk8, UInt8.toNat_xor, pow_byte hrk8, hyn]
              have ho2 := g4 (y ^^^ UInt8.ofNat (2 ^ rk))
              obtain ⟨k1, k2, k3⟩ := turn_one (b := b) (c := cc) (p := p) (m := m0) (i := j) (k := kk) (by omega) (by rw [hqk, HCL.out]; exact hqn1) HLE.out HML.out
              have hgd : cc.getD qk 0 = y := by rw [List.getD_eq_getElem?_getD, hy]; rfl
              rw [hqk, hrk, hgd] at k1
              obtain ⟨z, hz⟩ : ∃ z, y ^^^ UInt8.ofNat (2 ^ rk) = z := ⟨_, rfl⟩
              rw [hz] at hxor ho2 k1
              have HO2 := Lib.hid ho2
              have HK1 := Lib.hid k1
              have HK2 := Lib.hid k2
              have HK3 := Lib.hid k3
              have HB2' : Hid (Below w2.heap.size w2 ((wr.setCell ⟨gb, qk, none⟩ (.int .u8 (z.toNat : Int))).drew)) := Lib.hid ((HBX.out.setCell (p := ⟨gb, qk, none⟩) g3 _).drew)
              clear hqk hrk hy hyn g4 ho2 k1 k2 k3 hgd hz
              go_upto_region 16 with fail
              go_region
              go_wp2_with fail
              go_roundw
              case rel => exact ⟨j + 1, t0 + 1, m0 + 2 ^ j, cc.set qk z, by omega, by go_num, by go_num, by omega, Lib.hid ⟨fun e => by omega, fun e => absurd e HK3.out⟩, Lib.hid (by rw [List.length_set, HCL.out]), Lib.hid HO2.out, HK1, HK2, Lib.hid (fun e => absurd e HK3.out), HB2'⟩
              case measure => simp [intOf]; omega
            · have hleni : ¬ (kk : Int) < 8 * (nb : Int) := by omega
              go_wp2_with fail
              go_roundw
              case rel => exact ⟨j + 1, t0, m0, cc, by omega, by go_num, rfl, by omega, HTM, HCL, HOC, HLE, Lib.hid (Nat.lt_of_lt_of_le HML.out (Nat.pow_le_pow_right (by decide) (Nat.le_succ j))), HCB, HBX⟩
              case measure => simp [intOf]; omega
          · go_wp2_with fail
            go_roundw
            case rel => exact ⟨j + 1, t0, m0, cc, by omega, by go_num, rfl, by omega, HTM, HCL, HOC, HLE, Lib.hid (Nat.lt_of_lt_of_le HML.out (Nat.pow_le_pow_right (by decide) (Nat.le_succ j))), HCB, HBX⟩
            case measure => simp [intOf]; omega
        · obtain rfl : j = 64 := by omega
          obtain ⟨ab, cb2, hv2, hba⟩ := ownB_barg HOC.out (by rw [HCL.out]; omega)
          obtain ⟨rfl, -, rfl⟩ := Value.slice.inj hv2
          rw [HCL.out] at hba
          have HBL := Lib.hid (HB2.out.trans (HBX.out.mono HB2.out.size))
          have HLC := Lib.hid hba.load
          by_cases hm0 : m0 = 0
          · obtain rfl : t0 = 0 := HTM.out.2 hm0
            rw [HCB.out hm0, HLD.out] at HLC
            clear hba hm0
            go_wp2_with (first
              | (go_at_call 18; refine HLC.out.mono ?_; rintro e w4 ⟨hb4, v4, L4, rfl, ho4, hl4⟩
                 have HB4 := Lib.hid (HBL.out.trans (hb4.mono HBL.out.size))
                 obtain ⟨a4, c4, rfl, hs4⟩ := ho4.srow
                 have hn4 : L4.length = m := by rw [← List.length_map (f := (·.1)), hl4, HLM.out]
                 rw [hn4]
                 rw [hl4] at hs4
                 have HSS := Lib.hid (sameS_self29 w4 a4 ay m c4 cy L2 HLM.out (by omega) hs4 (HSR.out.below (HBX.out.trans (hb4.mono HBX.out.size))) HBG.out.val)
                 clear HLC hb4 ho4 hl4 hs4 hn4)
              | (go_at_call 13; refine HSS.out.mono ?_; rintro e w5 ⟨rfl, hb5⟩; have HB5 := Lib.hid (HB4.out.trans (hb5.mono HB4.out.size)); clear HSS hb5))
            go_ret
            exact ⟨rfl, HB5.out⟩
          · have ht0 : ((t0 : Int) == 0) = false := by
              have : t0 ≠ 0 := fun e => hm0 (HTM.out.1 e)
              simp; omega
            have hno : ∀ q, loadR cc ≠ .ok q := fun q hq => harmed HLD.out hq (by rw [HCL.out, HNB.out]) HLE.out (Nat.lt_of_lt_of_le HML.out (by decide)) hm0 (by rw [HNB.out]; omega)
            cases hlc : loadR cc with
            | ok q => exact absurd hlc (hno q)
            | error ec =>
              rw [hlc] at HLC
              have hec : ec = 5 ∨ ec = 290 ∨ ec = 291 ∨ ec = 2 := by rcases loadR_errs hlc with h | h | h | h; exact .inl h; exact .inr (.inl h); exact .inr (.inr (.inl h)); exact .inr (.inr (.inr h.1))
              have hecb : ((ec : Int) == 0) = false := by rcases hec with rfl | rfl | rfl | rfl <;> rfl
              have hecn : ((ec : Int) != 0) = true := by rcases hec with rfl | rfl | rfl | rfl <;> rfl
              clear hba hm0 hno hlc hec
              go_wp2_with (go_at_call 18; refine HLC.out.mono ?_; rintro e w4 ⟨hb4, rfl⟩; have HB4 := Lib.hid (HBL.out.trans (hb4.mono HBL.out.size)); clear HLC hb4)
              go_ret
              exact ⟨rfl, HB4.out⟩
    · rw [if_neg hr0] at hp
      have hpr : r = (p : Int) := hp.symm
      clear hp
      go_upto_region 10 with fail
      clear hpr hr
      have H0 := Lib.hid r1
      go_wp2_with fail
      go_loopw [14, 49] (fun tt i wx => ∃ (j t0 m0 : Nat) (cc : List UInt8), j ≤ 64 ∧ i = .int .i64 j ∧ tt = .int .i64 t0 ∧ t0 ≤ j ∧ Hid (t0 = 0 ↔ m0 = 0) ∧ Hid (cc.length = nb) ∧ Hid (OwnB wx w2.heap.size 5 (.slice (some ⟨gb, 0, none⟩) nb cb) cc) ∧ Hid (leN b ^^^ leN cc = 2 ^ p * m0) ∧ Hid (m0 < 2 ^ j) ∧ Hid (m0 = 0 → cc = b) ∧ Hid (Below w2.heap.size w2 wx)) (fun _ i _ => 64 - (intOf i).toNat)
      case atStart => exact ⟨0, 0, 0, b, by omega, rfl, rfl, Nat.le_refl _, Lib.hid (by simp), HNB, HOB, Lib.hid (by simp), Lib.hid (by decide), Lib.hid (fun _ => rfl), HB23⟩
      case round =>
        obtain ⟨j, t0, m0, cc, hj, rfl, rfl, htj, HTM, HCL, HOC, HLE, HML, HCB, HBX⟩ := hrel
        by_cases hlt : j < 64
        · have hlti : (j : Int) < 64 := by omega
          obtain ⟨kk, hkk⟩ : ∃ kk : Nat, (p : Int) + (j : Int) = (kk : Int) := ⟨p + j, by omega⟩
          by_cases hbit : bits BinOp.and IntKind.u64 ((mask : Int) / 2 ^ j) 1 = 1
          · by_cases hlen : kk < 8 * nb
            · have hleni : (kk : Int) < 8 * (nb : Int) := by omega
              obtain ⟨qk, hqk⟩ : ∃ qk, kk / 8 = qk := ⟨_, rfl⟩
              obtain ⟨rk, hrk⟩ : ∃ rk, kk % 8 = rk := ⟨_, rfl⟩
              have hq1 : (kk : Int).tdiv 8 = (qk : Int) := by rw [Int.tdiv_eq_ediv_of_nonneg (by omega)]; omega
              have hm1 : (kk : Int).tmod 8 = (rk : Int) := by rw [Int.tmod_eq_emod_of_nonneg (by omega)]; omega
              have hq2 : (kk : Int) / 8 = (qk : Int) := by omega
              have hm2 : (kk : Int) % 8 = (rk : Int) := by omega
              have hqn1 : qk < nb := by omega
              have hqn2 : (qk : Int) < (nb : Int) := by omega
              obtain ⟨y, hy⟩ : ∃ y, cc[qk]? = some y := ⟨_, List.getElem?_eq_getElem (by rw [HCL.out]; exact hqn1)⟩
              obtain ⟨g1, g2, g3, g4⟩ := ownB_set HOC.out hy
              obtain ⟨yn, hyn⟩ : ∃ yn, y.toNat = yn := ⟨_, rfl⟩
              rw [hyn] at g1
              have hrk8 : rk < 8 := by omega
              have hxor : bits BinOp.xor IntKind.u8 (yn : Int) (2 ^ rk % 256) = (((y ^^^ UInt8.ofNat (2 ^ rk)).toNat : Nat) : Int) := by
                rw [xor_byte yn (by rw [← hyn]; exact y.toNat_lt) rk hrk8, UInt8.toNat_xor, pow_byte hrk8, hyn]
              have ho2 := g4 (y ^^^ UInt8.ofNat (2 ^ rk))
              obtain ⟨k1, k2, k3⟩ := turn_one (b := b) (c := cc) (p := p) (m := m0) (i := j) (k := kk) (by omega) (by rw [hqk, HCL.out]; exact hqn1) HLE.out HML.out
              have hgd : cc.getD qk 0 = y := by rw [List.getD_eq_getElem?_getD, hy]; rfl
              rw [hqk, hrk, hgd] at k1
              obtain ⟨z, hz⟩ : ∃ z, y ^^^ UInt8.ofNat (2 ^ rk) = z := ⟨_, rfl⟩
              rw [hz] at hxor ho2 k1
              have HO2 := Lib.hid ho2
              have HK1 := Lib.hid k1
              have HK2 := Lib.hid k2
              have HK3 := Lib.hid k3
              have HB2' : Hid (Below w2.heap.size w2 ((wr.setCell ⟨gb, qk, none⟩ (.int .u8 (z.toNat : Int))).drew)) := Lib.hid ((HBX.out.setCell (p := ⟨gb, qk, none⟩) g3 _).drew)
              clear hqk hrk hy hyn g4 ho2 k1 k2 k3 hgd hz
              go_upto_region 16 with fail
              go_region
              go_wp2_with fail
              go_roundw
              case rel => exact ⟨j + 1, t0 + 1, m0 + 2 ^ j, cc.set qk z, by omega, by go_num, by go_num, by omega, Lib.hid ⟨fun e => by omega, fun e => absurd e HK3.out⟩, Lib.hid (by rw [List.length_set, HCL.out]), Lib.hid HO2.out, HK1, HK2, Lib.hid (fun e => absurd e HK3.out), HB2'⟩
              case measure => simp [intOf]; omega
            · have hleni : ¬ (kk : Int) < 8 * (nb : Int) := by omega
              go_wp2_with fail
              go_roundw
              case rel => exact ⟨j + 1, t0, m0, cc, by omega, by go_num, rfl, by omega, HTM, HCL, HOC, HLE, Lib.hid (Nat.lt_of_lt_of_le HML.out (Nat.pow_le_pow_right (by decide) (Nat.le_succ j))), HCB, HBX⟩
              case measure => simp [intOf]; omega
          · go_wp2_with fail
            go_roundw
            case rel => exact ⟨j + 1, t0, m0, cc, by omega, by go_num, rfl, by omega, HTM, HCL, HOC, HLE, Lib.hid (Nat.lt_of_lt_of_le HML.out (Nat.pow_le_pow_right (by decide) (Nat.le_succ j))), HCB, HBX⟩
            case measure => simp [intOf]; omega
        · obtain rfl : j = 64 := by omega
          obtain ⟨ab, cb2, hv2, hba⟩ := ownB_barg HOC.out (by rw [HCL.out]; omega)
          obtain ⟨rfl, -, rfl⟩ := Value.slice.inj hv2
          rw [HCL.out] at hba
          have HBL := Lib.hid (HB2.out.trans (HBX.out.mono HB2.out.size))
          have HLC := Lib.hid hba.load
          by_cases hm0 : m0 = 0
          · obtain rfl : t0 = 0 := HTM.out.2 hm0
            rw [HCB.out hm0, HLD.out] at HLC
            clear hba hm0
            go_wp2_with (first
              | (go_at_call 18; refine HLC.out.mono ?_; rintro e w4 ⟨hb4, v4, L4, rfl, ho4, hl4⟩
                 have HB4 := Lib.hid (HBL.out.trans (hb4.mono HBL.out.size))
                 obtain ⟨a4, c4, rfl, hs4⟩ := ho4.srow
                 have hn4 : L4.length = m := by rw [← List.length_map (f := (·.1)), hl4, HLM.out]
                 rw [hn4]
                 rw [hl4] at hs4
                 have HSS := Lib.hid (sameS_self29 w4 a4 ay m c4 cy L2 HLM.out (by omega) hs4 (HSR.out.below (HBX.out.trans (hb4.mono HBX.out.size))) HBG.out.val)
                 clear HLC hb4 ho4 hl4 hs4 hn4)
              | (go_at_call 13; refine HSS.out.mono ?_; rintro e w5 ⟨rfl, hb5⟩; have HB5 := Lib.hid (HB4.out.trans (hb5.mono HB4.out.size)); clear HSS hb5))
            go_ret
            exact ⟨rfl, HB5.out⟩
          · have ht0 : ((t0 : Int) == 0) = false := by
              have : t0 ≠ 0 := fun e => hm0 (HTM.out.1 e)
              simp; omega
            have hno : ∀ q, loadR cc ≠ .ok q := fun q hq => harmed HLD.out hq (by rw [HCL.out, HNB.out]) HLE.out (Nat.lt_of_lt_of_le HML.out (by decide)) hm0 (by rw [HNB.out]; omega)
            cases hlc : loadR cc with
            | ok q => exact absurd hlc (hno q)
            | error ec =>
              rw [hlc] at HLC
              have hec : ec = 5 ∨ ec = 290 ∨ ec = 291 ∨ ec = 2 := by rcases loadR_errs hlc with h | h | h | h; exact .inl h; exact .inr (.inl h); exact .inr (.inr (.inl h)); exact .inr (.inr (.inr h.1))
              have hecb : ((ec : Int) == 0) = false := by rcases hec with rfl | rfl | rfl | rfl <;> rfl
              have hecn : ((ec : Int) != 0) = true := by rcases hec with rfl | rfl | rfl | rfl <;> rfl
              clear hba hm0 hno hlc hec
              go_wp2_with (go_at_call 18; refine HLC.out.mono ?_; rintro e w4 ⟨hb4, rfl⟩; have HB4 := Lib.hid (HBL.out.trans (hb4.mono HBL.out.size)); clear HLC hb4)
              go_ret
              exact ⟨rfl, HB4.out⟩
end Go.Proofs.YteiklgbjjmlmaaaGreat
