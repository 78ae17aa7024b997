/- VerbsNames: the program's names are the document's, in memory of their own, and each of the document's rows is found. A closed statement. -/
import Derived.Test.YtdoddnnggamaiaaRefNames
import Derived.Test.YtdoddnnggamaiaaOpen
namespace Pantry.Verbs
theorem names_capital : ∀ r ∈ refRows, upL r.name = r.name := by decide +kernel
end Pantry.Verbs
namespace Go.Proofs.Ytdoddnnggamaiaa
open Go.RowKit Pantry
/-- 'same' of two rows of its own. -/
theorem same_own {w : World} {B1 B2 : Nat} {v1 v2 : Value} {l k : List (List UInt8)} (h1 : w.ownsRow B1 9 1 v1 l.length (txts l)) (h2 : w.ownsRow B2 9 1 v2 k.length (txts k)) (hn : l.length ≤ 1099511627776) :
    Calls Try.prog 21 #[v1, v2] w (QRet w (.bool (decide (l = k)))) := by
  obtain ⟨a1, c1, rfl, r1⟩ := ownsRow_rd h1 (txts_one _)
  obtain ⟨a2, c2, rfl, r2⟩ := ownsRow_rd h2 (txts_one _)
  exact same_any a1 a2 _ _ c1 c2 l k w rfl rfl (by omega) r1 r2
theorem ownsRow_drewN {w : World} {q : Nat} {B e size n : Nat} {v : Value} {xs : List Value} (h : w.ownsRow B e size v n xs) : (w.drewN q).ownsRow B e size v n xs := h
theorem below_drewN' {B : Nat} {a w : World} {q : Nat} (h : Below B a w) : Below B a (w.drewN q) := ⟨h.os, h.tape, h.output, h.size, h.block⟩
end Go.Proofs.Ytdoddnnggamaiaa
namespace Go.Proofs.Ytdoddnnggamaiaa.verbsNames
open Go.RowKit Pantry
open Go.ChangeShapes Go.WideShapes Go.ChangeAt

set_option maxHeartbeats 4000000 in
set_option maxRecDepth 100000 in
theorem walk (w : World) :
    Calls Try.prog 5 #[] w fun e w' => e = .returned (.bool true) ∧ Below w.heap.size w w' := by
  obtain ⟨N, hN⟩ : ∃ N, Verbs.names Verbs.all = N := ⟨_, rfl⟩
  have hNl : N.length = 113 := by rw [← hN]; exact Verbs.names_all_length
  have HNl := Lib.hid hNl
  clear hNl
  go_enter Try.func5, Try.ntmps5
  go_wp2_with fail
  refine (refNames_any _).mono ?_
  rintro e w1 ⟨v1, rfl, ho1, hb1⟩
  rw [hN] at ho1
  go_wp2_with fail
  refine (names_any _).mono ?_
  rintro e w2 ⟨v2, rfl, ho2, hb2⟩
  rw [hN] at ho2
  go_wp2_with fail
  refine (names_any _).mono ?_
  rintro e w3 ⟨v3, rfl, ho3, hb3⟩
  rw [hN] at ho3
  have hz1 := hb1.size
  have hz2 := hb2.size
  have hz3 := hb3.size
  have l1 := fun k hk => (ho1.lt k hk).2
  have l2 := fun k hk => ho2.lt k hk
  have l3 := fun k hk => ho3.lt k hk
  have p1 : w3.ownsRow w.heap.size 9 1 v1 N.length (txts N) := ownsRow_belowAll (ownsRow_belowAll ho1 hb2) hb3
  have p2 : w3.ownsRow w1.heap.size 9 1 v2 N.length (txts N) := ownsRow_belowAll ho2 hb3
  have hbw : Below w.heap.size w w3 := hb1.trans ((hb2.mono hz1).trans (hb3.mono (by omega)))
  have P1 := Lib.hid p1
  have P2 := Lib.hid p2
  have P3 := Lib.hid ho3
  have L1 := Lib.hid l1
  have L2 := Lib.hid l2
  have L3 := Lib.hid l3
  clear p1 p2 ho1 ho2 ho3 hb1 hb2 hb3 l1 l2 l3
  go_wp2_with fail
  refine (same_own P2.out P1.out (by rw [HNl.out]; omega)).mono ?_
  rintro e w' ⟨rfl, q1, rfl⟩
  rw [decide_eq_true rfl]
  go_wp2_with fail
  refine (same_own (ownsRow_drewN P3.out) (ownsRow_drewN P1.out) (by rw [HNl.out]; omega)).mono ?_
  rintro e w' ⟨rfl, q2, rfl⟩
  rw [decide_eq_true rfl]
  go_wp2_with fail
  refine (spoil_any v2 N.length N _ w1.heap.size (by rw [HNl.out]; omega) (ownsRow_drewN P2.out) (by show w1.heap.size ≤ w3.heap.size; omega)).mono ?_
  rintro e w4 ⟨rfl, hg4⟩
  have hg4' : w3.grownBy w4 v2.ownBlock := ⟨hg4.os, hg4.tape, hg4.output, hg4.size, hg4.block⟩
  have hz4 := hg4'.size
  have P1b := Lib.hid (ownsRow_grown P1.out hg4' (fun b hb => fun e => by have h1 := L1.out b hb; have h2 := L2.out b e; omega))
  have P3b := Lib.hid (ownsRow_grown P3.out hg4' (fun b hb => fun e => by have h1 := L3.out b hb; have h2 := L2.out b e; omega))
  have hbw4 : Below w.heap.size w w4 := grownBy_below hbw hg4' (fun k hk => by have h2 := L2.out k hk; omega) (Nat.le_refl _)
  clear hg4 hg4' P1 P2 P3 hbw
  go_wp2_with fail
  refine (same_own P3b.out P1b.out (by rw [HNl.out]; omega)).mono ?_
  rintro e w' ⟨rfl, q3, rfl⟩
  rw [decide_eq_true rfl]
  go_wp2_with fail
  refine (spoil_any v3 N.length N _ w2.heap.size (by rw [HNl.out]; omega) (ownsRow_drewN P3b.out) (by show w2.heap.size ≤ w4.heap.size; omega)).mono ?_
  rintro e w5 ⟨rfl, hg5⟩
  have hg5' : w4.grownBy w5 v3.ownBlock := ⟨hg5.os, hg5.tape, hg5.output, hg5.size, hg5.block⟩
  have hz5 := hg5'.size
  have P1c := Lib.hid (ownsRow_grown P1b.out hg5' (fun b hb => fun e => by have h1 := L1.out b hb; have h2 := L3.out b e; omega))
  have hbw5 : Below w.heap.size w w5 := grownBy_below hbw4 hg5' (fun k hk => by have h2 := L3.out k hk; omega) (Nat.le_refl _)
  clear hg5 hg5' P1b P3b hbw4
  go_wp2_with fail
  refine (refRows_any _).mono ?_
  rintro e w6 ⟨v, rfl, hown, hb6⟩
  obtain ⟨g, c, rfl, hg, hgs, hgc⟩ := own_some hown (by decide)
  have hz6 := hb6.size
  have P1d := Lib.hid (ownsRow_belowAll P1c.out hb6)
  have hbw6 : Below w.heap.size w w6 := hbw5.trans (hb6.mono (by omega))
  have HI := Lib.hid (show RefIn w5.heap.size g c w6 from hown)
  clear hown P1c hbw5 hb6
  go_wp2
  go_loopw [5] (fun i wr => ∃ k : Nat, k ≤ 113 ∧ i = .int .i64 k ∧ Below w6.heap.size w6 wr) (fun i _ => 113 - (intOf i).toNat)
  case atStart => exact ⟨0, by omega, rfl, Below.refl _ _⟩
  case round =>
    obtain ⟨k, hk, rfl, hb⟩ := hrel
    by_cases hlt : k < 113
    · obtain ⟨r, hr⟩ : ∃ r, Verbs.refRows[k]? = some r := ⟨_, List.getElem?_eq_getElem (by rw [Verbs.refRows_length]; exact hlt)⟩
      have hrow : RefIn w5.heap.size g c wr := ownsRow_below HI.out hb (by rintro b ⟨⟩; exact hgs)
      obtain ⟨c0, c1, c2, c3, c4, c5⟩ := own_cells hrow hr
      have hget : Verbs.get Verbs.all (upL (⟨r.name.toArray⟩ : ByteArray).data.toList) = some r := by
        have := Verbs.names_capital r (List.mem_of_getElem? hr)
        rw [show (⟨r.name.toArray⟩ : ByteArray).data.toList = r.name from rfl, this]
        exact Verbs.get_hit hr rfl
      have hsz : (⟨r.name.toArray⟩ : ByteArray).size ≤ 140737488351232 := by
        have := Verbs.names_short r (Verbs.refRows_perm.1 r (List.mem_of_getElem? hr))
        have e : (⟨r.name.toArray⟩ : ByteArray).size = r.name.length := by simp [ByteArray.size]
        omega
      have HR := Lib.hid hr
      have HGt := Lib.hid hget
      have hbs := hb.size
      clear hr hget hrow
      go_wp2_with fail
      refine (find_any _ _ hsz).mono ?_
      rintro e w7 ⟨rfl, hb7⟩
      rw [HGt.out]
      simp only [Option.getD_some, Option.isSome_some]
      rw [rowAgg, rowCells]
      have hb8 : Below w6.heap.size w6 w7 := hb.trans (hb7.mono hbs)
      have hrow7 : RefIn w5.heap.size g c w7 := ownsRow_below HI.out hb8 (by rintro b ⟨⟩; exact hgs)
      have d0 := fun o => (own_cells (World.ownsRow.alloc hrow7 o) HR.out).1
      have d1 := fun o => (own_cells (World.ownsRow.alloc hrow7 o) HR.out).2.1
      have d2 := fun o => (own_cells (World.ownsRow.alloc hrow7 o) HR.out).2.2.1
      have d3 := fun o => (own_cells (World.ownsRow.alloc hrow7 o) HR.out).2.2.2.1
      have d4 := fun o => (own_cells (World.ownsRow.alloc hrow7 o) HR.out).2.2.2.2.1
      have d5 := fun o => (own_cells (World.ownsRow.alloc hrow7 o) HR.out).2.2.2.2.2
      have i0 : (0 : Int) ≤ (k : Int) := Int.natCast_nonneg _
      have i1 : (k : Int) < 113 := by omega
      clear c0 c1 c2 c3 c4 c5 hrow7
      have hb9 := hb8.alloc hb8.size (.cells #[.string ⟨r.name.toArray⟩, .int .i64 r.arity, .int .i64 r.flags, .int .i64 r.first, .int .i64 r.last, .int .i64 r.jump] 29)
      go_wp2_with fail
      go_quiet (fail)
      go_wp2
      go_roundw
      case rel => exact ⟨k + 1, by omega, by go_num, below_drewN' hb9⟩
      case measure => simp [intOf]; omega
    · have hzb := hb.size
      have P1e := Lib.hid (ownsRow_belowAll P1d.out hb)
      have hbw7 : Below w.heap.size w wr := hbw6.trans (hb.mono (by omega))
      clear hb hbw6 P1d
      go_wp2_with fail
      refine (names_any _).mono ?_
      rintro e w8 ⟨v8, rfl, ho8, hb8⟩
      rw [hN] at ho8
      have P1f := Lib.hid (ownsRow_belowAll P1e.out hb8)
      have P8 := Lib.hid ho8
      clear ho8 P1e
      go_wp2_with fail
      refine (same_own P8.out P1f.out (by rw [HNl.out]; omega)).mono ?_
      rintro e w' ⟨rfl, q4, rfl⟩
      rw [decide_eq_true rfl]
      have hbw8 : Below w.heap.size w w8 := hbw7.trans (hb8.mono (by omega))
      go_wp2
      go_ret
      exact ⟨rfl, below_drewN' hbw8⟩
set_option linter.unusedVariables false

theorem own : ownKnob Try.prog.godebug = none := by kernel_rfl
theorem laidOut : laidOutB Try.prog = true := by kernel_rfl

set_option maxRecDepth 100000 in
theorem lifted (os : Os) (started : os.Started) (H : Type) (enc : TypeId × Value → H) :
    ReturnsInHanded {} Try.checked os 5 .any (Rows.verbsNamesSpec.pre6 enc Try.prog Try.f5 Rows.verbsNamesRow.domain false) (Rows.verbsNamesSpec.post enc Try.prog Try.f5 false true false false) := by
  refine returnsInHanded_of_change_sized (C := Try.checked) own started (by kernel_rfl) Try.func5
    (ChangeSpec.witness6 (enc := enc) (C := Try.checked) false ⟨#[], #[], []⟩ 8 (by kernel_rfl) (by kernel_rfl) (by kernel_rfl) (by kernel_rfl)) ?_
  intro W base args ds gs before hval0 hW hcnd hsz _
  have hW' := hW
  obtain ⟨p, q, hA0, hV, rfl, hfz, hnd⟩ := hW
  have hA : DataW.TrodAll enc Try.prog W 0 (fun _ => true) true Try.f5.params.toList args.toList ds p := hA0
  rw [Try.params5] at hA
  obtain ⟨hargs, rfl, rfl⟩ := trodAll_nil hA
  obtain rfl : args = #[] := by cases args; simp_all
  obtain ⟨rfl, rfl⟩ := trodVars_none hV
  clear hA0 hval0 hsz
  refine (walk W).mono fun e W' ⟨he, bel⟩ => ?_
  subst he
  exact ⟨_, rfl, _, _, _, [], _, [], hW', trodAll_mk1 (shut_bool Try.underlying4 _), trodAll_mk0, rfl, bel.frame _, fun h => by cases h⟩

theorem over : Rows.verbsNamesRow.holds Try.pinned (OpenSpec.ofChange Rows.verbsNamesSpec) :=
  OpenClaim.holds_of_wide 5 Try.f5 rfl rfl rfl rfl rfl rfl rfl ⟨rfl, rfl, rfl, rfl, rfl⟩ rfl rfl rfl rfl rfl (by kernel_rfl) Try.func5 (by kernel_rfl)
    (of_decide_eq_true (by kernel_rfl)) (by unfold Func.isWrapper; first | (rw [if_pos (by decide +kernel)]; kernel_rfl) | (rw [if_neg (by decide +kernel)]; exact ⟨rfl, rfl⟩))
    (fun os started H enc _ => lifted os started H enc)

theorem proved : Rows.VerbsNamesSaid := over
#print axioms proved
end Go.Proofs.Ytdoddnnggamaiaa.verbsNames
