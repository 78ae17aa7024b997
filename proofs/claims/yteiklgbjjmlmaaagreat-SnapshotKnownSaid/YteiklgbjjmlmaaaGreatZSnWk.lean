
/- The law's own wakes. -/
import Derived.Test.YteiklgbjjmlmaaaGreatZSnSame
import Derived.Test.YteiklgbjjmlmaaaGreatZSnSave
import Derived.Test.YteiklgbjjmlmaaaGreatZSnLd3
set_option linter.unusedVariables false
set_option linter.unusedSimpArgs false
namespace Pantry
def wkL : List SE := [⟨[107], ⟨1, [97, 98], [], [], []⟩, 300⟩]
theorem wk_body : (bodyB 5 wkL).length = 18 := by decide
theorem wk_right : rightFrom [] wkL = true := by decide
theorem wk_saves : ∃ b, saveR 5 wkL = .ok b ∧ b.length = 26 := by
  refine ⟨bodyB 5 wkL ++ eightB (sumB (bodyB 5 wkL)), ?_, ?_⟩
  · unfold saveR
    rw [if_neg (by omega), wk_right, if_neg (by simp), if_neg (by rw [show (5 : Int).toNat = 5 from rfl, wk_body]; omega)]
    rfl
  · rw [List.length_append, wk_body, eightB_len]
theorem wk_sum : sumB [49, 50, 51, 52, 53, 54, 55, 56, 57] = 11051210869376104954 := by decide +kernel
end Pantry
namespace Go.Proofs.YteiklgbjjmlmaaaGreat
open Go.RowKit Pantry

theorem OwnB.load {w : World} {base : Nat} {e : TypeId} {v : Value} {l : List UInt8} (h : OwnB w base e v l) :
    ∃ a c, v = .slice a l.length c ∧ Rd w a (b8 l) ∧ (a = none → c = 0) ∧ l.length ≤ c ∧ c ≤ 9223372036854775807 ∧ ∀ x, a = some x → x.block < w.heap.size := by
  obtain ⟨a, c, h1, h2, h3⟩ := h.val
  refine ⟨a, c, h1, h2, h3, ?_⟩
  rcases h with ⟨rfl, rfl⟩ | ⟨g, cap, cur, fz, rfl, k1, k2, k3, k4, k5, k6, k7⟩
  · obtain ⟨rfl, -, rfl⟩ := Value.slice.inj h1
    exact ⟨Nat.le_refl _, by decide, fun x hx => by cases hx⟩
  · obtain ⟨rfl, -, rfl⟩ := Value.slice.inj h1
    refine ⟨k4, by unfold maxLen at k5; omega, fun x hx => ?_⟩
    cases hx
    exact (Array.getElem?_eq_some_iff.1 k2).1
attribute [-go_sem] Builtin.append_
set_option maxRecDepth 100000 in
set_option maxHeartbeats 8000000 in
theorem wakes29_any (w : World) : Calls Tryz.prog 21 #[] w (SamePost true w) := by
  obtain ⟨bw, hbw, hbl⟩ := wk_saves
  have hld := save_load hbw (by intro x hx y hy; simp [wkL] at hx; subst hx; simp at hy)
  obtain ⟨W0, hW0⟩ : ∃ W, w.alloc (.cells #[.string ⟨#[107]⟩, .int .i64 1, .string ⟨#[97, 98]⟩, .slice none 0 0, .slice none 0 0, .slice none 0 0, .int .i64 300] 51) = W := ⟨_, rfl⟩
  have hb0 : Below w.heap.size w W0 := by rw [← hW0]; exact (Below.refl _ _).alloc (Nat.le_refl _) _
  have h0 : W0.heap[w.heap.size]? = some (.cells #[.string ⟨#[107]⟩, .int .i64 1, .string ⟨#[97, 98]⟩, .slice none 0 0, .slice none 0 0, .slice none 0 0, .int .i64 300] 51) := by rw [← hW0]; exact heap_alloc_new w _
  have hsr : SRow W0 (some ⟨w.heap.size, 0, none⟩) wkL := by
    intro i x hx
    have hi : i = 0 := by
      have := (List.getElem?_eq_some_iff.1 hx).1
      simp [wkL] at this; exact this
    subst hi
    obtain rfl : x = ⟨[107], ⟨1, [97, 98], [], [], []⟩, 300⟩ := by simpa [wkL] using hx.symm
    refine ⟨_, rfl, none, none, none, 0, 0, 0, fun j u hu => ?_, Rd.nil _ _, Rd.nil _ _, Rd.nil _ _⟩
    rw [Nat.zero_mul, Addr.add_base, Addr.add_base, cell_of_row W0 _ j _ _ _ h0]
    simpa [seC] using hu
  have hbig : SBig wkL := ⟨by decide, by intro x hx; simp [wkL] at hx; subst hx; exact ⟨by decide, by decide, by decide, by decide, by simp, by simp, by simp, by simp⟩, by intro x hx; simp [wkL] at hx; subst hx; decide, by intro x hx y hy; simp [wkL] at hx; subst hx; simp at hy⟩
  have HSV := Lib.hid (save_any W0 5 (some ⟨w.heap.size, 0, none⟩) 1 1 wkL rfl (Nat.le_refl _) hsr hbig)
  rw [hbw] at HSV
  have HLD := Lib.hid hld
  have HSR := Lib.hid hsr
  have HB0 := Lib.hid hb0
  have HBL := Lib.hid hbl
  have HBG := Lib.hid hbig
  have hconv : ∀ W : World, (convert 24 24 (.slice (some ⟨W.heap.size, 0, none⟩) 9 9)).run Tryz.prog (W.alloc (.cells #[.int .u8 49, .int .u8 50, .int .u8 51, .int .u8 52, .int .u8 53, .int .u8 54, .int .u8 55, .int .u8 56, .int .u8 57] 5)) = .ok (.slice (some ⟨W.heap.size, 0, none⟩) 9 9) (W.alloc (.cells #[.int .u8 49, .int .u8 50, .int .u8 51, .int .u8 52, .int .u8 53, .int .u8 54, .int .u8 55, .int .u8 56, .int .u8 57] 5 (9, 10))) := fun W => (run_marked W #[.int .u8 49, .int .u8 50, .int .u8 51, .int .u8 52, .int .u8 53, .int .u8 54, .int .u8 55, .int .u8 56, .int .u8 57] 9 9)
  have HSU : ∀ W : World, Hid (Calls Tryz.prog 24 #[.slice (some ⟨W.heap.size, 0, none⟩) 9 9] (W.alloc (.cells #[.int .u8 49, .int .u8 50, .int .u8 51, .int .u8 52, .int .u8 53, .int .u8 54, .int .u8 55, .int .u8 56, .int .u8 57] 5 (9, 10))) fun e w' => e = .returned (.int .u64 11051210869376104954) ∧ W.alloc (.cells #[.int .u8 49, .int .u8 50, .int .u8 51, .int .u8 52, .int .u8 53, .int .u8 54, .int .u8 55, .int .u8 56, .int .u8 57] 5 (9, 10)) = w') := fun W => Lib.hid (by
    have h := sum_any (some ⟨W.heap.size, 0, none⟩) 9 9 [49, 50, 51, 52, 53, 54, 55, 56, 57] (W.alloc (.cells #[.int .u8 49, .int .u8 50, .int .u8 51, .int .u8 52, .int .u8 53, .int .u8 54, .int .u8 55, .int .u8 56, .int .u8 57] 5 (9, 10))) rfl (by decide) (Rd.new W #[.int .u8 49, .int .u8 50, .int .u8 51, .int .u8 52, .int .u8 53, .int .u8 54, .int .u8 55, .int .u8 56, .int .u8 57] 5 (9, 10) (by simp [Value.oneCell']))
    rw [wk_sum] at h
    exact h)
  clear hbw hbl hld h0 hsr hbig hb0
  go_enter Tryz.func21, Tryz.ntmps21
  go_upto_region 3 with (go_at_call 11; refine HSV.out.mono ?_; rintro e w1 ⟨hb1, v, rfl, hov⟩
                         obtain ⟨a, c, rfl, hrd, hnil, hlc, hc, hblk⟩ := OwnB.load hov
                         rw [HBL.out] at hlc ⊢
                         have HB1 := Lib.hid (HB0.out.trans (hb1.mono HB0.out.size))
                         have HB01 := Lib.hid hb1
                         have HLO := Lib.hid (load_any w1 a 26 c bw HBL.out hlc hc hnil hrd)
                         rw [HLD.out] at HLO
                         clear hb1 hov hrd hnil hlc hc hblk)
  go_wp2_with (first
    | (go_at_call 18; refine HLO.out.mono ?_; rintro e w2 ⟨hb2, v2, L2, rfl, ho2, hl2⟩
       obtain ⟨a2, c2, rfl, hs2⟩ := ho2.srow
       have hl2n : L2.length = 1 := by rw [← List.length_map (f := (·.1)), hl2]; rfl
       rw [hl2n]
       rw [hl2] at hs2
       have HB2 := Lib.hid (HB1.out.trans (hb2.mono HB1.out.size))
       have HSS := Lib.hid (sameS_self29 w2 (some ⟨w.heap.size, 0, none⟩) a2 1 1 c2 wkL rfl (by decide) ((HSR.out.below HB01.out).below hb2) hs2 HBG.out.val)
       clear hb2 ho2 hl2 hs2 hl2n)
    | (go_at_call 13; refine HSS.out.mono ?_; rintro e w3 ⟨rfl, hb3⟩; have HB3 := Lib.hid (HB2.out.trans (hb3.mono HB2.out.size)); clear hb3)
    | (go_at_call 24; refine (HSU _).out.mono ?_; rintro e w4 ⟨rfl, rfl⟩))
  go_ret
  exact ⟨rfl, HB3.out.alloc HB3.out.size _⟩
end Go.Proofs.YteiklgbjjmlmaaaGreat
