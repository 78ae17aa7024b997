/- The document's Upper and Find. -/
import Derived.Test.YtdoddnnggamaiaaRefRows
namespace Go.Proofs.Ytdoddnnggamaiaa
open Go.RowKit Pantry

set_option maxHeartbeats 1000000 in
theorem refUpper_any (s : ByteArray) (w : World) (hs : s.size ≤ 140737488351232) : Calls Try.prog 18 #[.string s] w (UpPost s w) := by
  have HS := Lib.hid (show s.data.toList.length = s.size by rw [Array.length_toList]; rfl)
  go_enter Try.func18, Try.ntmps18
  go_wp2_with (refine wpl_bytes_of Try.underlying9 Try.underlying22 Try.underlying5 rfl _ rfl rfl ?_; intro w1 cap hcap hrow hb hsz)
  go_loopw [4] (fun i wr => ∃ k : Nat, k ≤ s.size ∧ i = .int .i64 k ∧ BRow wr w.heap.size (mapTo upB s.data.toList k) ∧ Below w.heap.size w wr) (fun i _ => s.size - (intOf i).toNat)
  case atStart => exact ⟨0, Nat.zero_le _, rfl, by rw [mapTo_zero]; exact hrow, hb⟩
  case round =>
    obtain ⟨k, hk, rfl, hrow, hb⟩ := hrel
    by_cases hlt : k < s.size
    · obtain ⟨c, hc⟩ : ∃ c, s.data.toList[k]? = some c := ⟨_, List.getElem?_eq_getElem (by have := HS.out; omega)⟩
      have hcell := hrow.cell (mapTo_get upB _ hc)
      have hfr := hrow.frozen (j := k) (by rw [mapTo_length]; have := HS.out; omega)
      have hc8 := c.toNat_lt
      by_cases hl : 97 ≤ c.toNat ∧ c.toNat ≤ 122
      · obtain ⟨h1, h2⟩ := hl
        have hset := hrow.set (j := k) (by rw [mapTo_length]; have := HS.out; omega) (upB c)
        rw [← mapTo_succ upB _ hc, upB_low h1 h2] at hset
        have hb2 := hb.setCell (p := ⟨w.heap.size, k, none⟩) (Nat.le_refl _) (.int .u8 ((c.toNat : Int) - 32))
        have HT := Lib.hid hset
        clear hset
        go_wp2
        go_roundw
        case rel => exact ⟨k + 1, by omega, by go_num, HT.out, hb2⟩
        case measure => simp [intOf]; omega
      · have HT := Lib.hid (show BRow wr w.heap.size (mapTo upB s.data.toList (k + 1)) by rw [mapTo_skip upB _ hc (upB_no hl)]; exact hrow)
        by_cases h1 : 97 ≤ c.toNat
        all_goals
          go_wp2
          go_roundw
          case rel => exact ⟨k + 1, by omega, by go_num, HT.out, hb⟩
          case measure => simp [intOf]; omega
    · rw [mapTo_whole upB _ (by have := HS.out; omega)] at hrow
      have hrd := hrow.rd
      clear hrow
      go_wp2_with (refine wpl_string_of Try.underlying22 Try.underlying5 Try.underlying9 rfl _ rfl (upL s.data.toList) rfl (by rw [upL_length, HS.out]) hrd ?_)
      go_ret
      exact ⟨rfl, hb⟩

/-- The six cells of a row of a table of its own. -/
theorem own_cells {w : World} {base g n c : Nat} {l : List Verbs.Row} (hown : w.ownsRow base 29 6 (.slice (some ⟨g, 0, none⟩) n c) n (tabCells l)) {h : Nat} {r : Verbs.Row} (hr : l[h]? = some r) :
    w.cell? ⟨g, h * 6, none⟩ = some (.string ⟨r.name.toArray⟩) ∧ w.cell? ⟨g, h * 6 + 1, none⟩ = some (.int .i64 r.arity) ∧ w.cell? ⟨g, h * 6 + 2, none⟩ = some (.int .i64 r.flags) ∧
    w.cell? ⟨g, h * 6 + 3, none⟩ = some (.int .i64 r.first) ∧ w.cell? ⟨g, h * 6 + 4, none⟩ = some (.int .i64 r.last) ∧ w.cell? ⟨g, h * 6 + 5, none⟩ = some (.int .i64 r.jump) := by
  have e : ∀ k, k < 6 → ∀ u, (rowCells r)[k]? = some u → w.cell? ⟨g, h * 6 + k, none⟩ = some u := by
    intro k hk u hu
    have := hown.cells rfl (h * 6 + k) u (by rw [tabCells, flatMap_at rowCells 6 (fun _ => rfl) l h k r hr hk]; exact hu)
    rwa [Addr.add_base] at this
  exact ⟨e 0 (by decide) _ rfl, e 1 (by decide) _ rfl, e 2 (by decide) _ rfl, e 3 (by decide) _ rfl, e 4 (by decide) _ rfl, e 5 (by decide) _ rfl⟩

theorem own_some {w : World} {base e size n : Nat} {v : Value} {xs : List Value} (h : w.ownsRow base e size v n xs) (hn : 0 < n) : ∃ g c, v = .slice (some ⟨g, 0, none⟩) n c ∧ base ≤ g ∧ g < w.heap.size ∧ n ≤ c := by
  rcases h.2 with ⟨_, h0⟩ | ⟨g, c, cur, rfl, hg, hh, hc, _⟩
  · omega
  · exact ⟨g, c, rfl, hg, (Array.getElem?_eq_some_iff.1 hh).1, hc⟩

end Go.Proofs.Ytdoddnnggamaiaa
namespace Pantry.Verbs
theorem refRows_perm : (∀ r ∈ refRows, r ∈ all) ∧ (∀ r ∈ all, r ∈ refRows) := by decide +kernel
theorem names_short : ∀ r ∈ all, r.name.length ≤ 20 := by decide +kernel
/-- The first rows have other names. -/
def Miss (l : List Row) (s : List UInt8) (k : Nat) : Prop := ∀ j r, j < k → l[j]? = some r → r.name ≠ s
theorem Miss.zero (l : List Row) (s : List UInt8) : Miss l s 0 := fun _ _ h => absurd h (Nat.not_lt_zero _)
theorem Miss.succ {l : List Row} {s : List UInt8} {k : Nat} {r : Row} (h : Miss l s k) (hr : l[k]? = some r) (hn : r.name ≠ s) : Miss l s (k + 1) := by
  intro j q hj hq
  rcases Nat.lt_or_ge j k with hlt | hge
  · exact h j q hlt hq
  · obtain rfl : j = k := by omega
    rw [hr] at hq; cases hq; exact hn
theorem get_hit {s : List UInt8} {k : Nat} {r : Row} (hr : refRows[k]? = some r) (hn : r.name = s) : get all s = some r :=
  get_some rising_all (refRows_perm.1 r (List.mem_of_getElem? hr)) hn
theorem get_miss {s : List UInt8} {n : Nat} (h : Miss refRows s n) (hn : refRows.length ≤ n) : get all s = none :=
  get_none fun r hr => by
    obtain ⟨k, hk, rfl⟩ := List.mem_iff_getElem.1 (refRows_perm.2 r hr)
    exact h k _ (by omega) (List.getElem?_eq_getElem hk)
theorem get_long {s : List UInt8} (h : 20 < s.length) : get all s = none :=
  get_none fun r hr e => by have := names_short r hr; rw [e] at this; omega
end Pantry.Verbs
namespace Go.Proofs.Ytdoddnnggamaiaa
open Go.RowKit Pantry

set_option maxHeartbeats 2000000 in
set_option maxRecDepth 100000 in
theorem refFind_any (s : ByteArray) (w : World) (hs : s.size ≤ 140737488351232) : Calls Try.prog 16 #[.string s] w (FindPost (upL s.data.toList) w) := by
  have HS := Lib.hid (show s.data.toList.length = s.size by rw [Array.length_toList]; rfl)
  by_cases h20 : 20 < s.size
  · have HG := Lib.hid (Verbs.get_long (s := upL s.data.toList) (by rw [upL_length, HS.out]; exact h20))
    go_enter Try.func16, Try.ntmps16
    go_wp2
    refine bodyPost_ret (v := .tuple #[rowAgg Verbs.empty, .bool false]) (by simp [results, Try.results16, go_sem, rowAgg, rowCells, Verbs.empty]) rfl ⟨?_, ?_⟩
    · rw [HG.out]; rfl
    · exact (Below.refl _ _).alloc (Nat.le_refl _) _
  · go_enter Try.func16, Try.ntmps16
    go_wp2_with fail
    refine (refRows_any _).mono ?_
    rintro e w1 ⟨v, rfl, hown, hb1⟩
    obtain ⟨g, c, rfl, hg, hgs, hgc⟩ := own_some hown (by decide)
    simp only [World.size_alloc] at hg hb1 hown
    go_wp2
    go_loopw [5] (fun i wr => ∃ k : Nat, k ≤ 113 ∧ i = .int .i64 k ∧ wr.ownsRow (w.heap.size + 1) 29 6 (.slice (some ⟨g, 0, none⟩) 113 c) 113 (tabCells Verbs.refRows) ∧ Below w1.heap.size w1 wr ∧ Verbs.Miss Verbs.refRows (upL s.data.toList) k) (fun i _ => 113 - (intOf i).toNat)
    case atStart => exact ⟨0, by omega, rfl, hown, Below.refl _ _, Verbs.Miss.zero _ _⟩
    case round =>
      obtain ⟨k, hk, rfl, hown, hb, hmiss⟩ := hrel
      by_cases hlt : k < 113
      · obtain ⟨r, hr⟩ : ∃ r, Verbs.refRows[k]? = some r := ⟨_, List.getElem?_eq_getElem (by rw [Verbs.refRows_length]; exact hlt)⟩
        obtain ⟨c0, c1, c2, c3, c4, c5⟩ := own_cells hown hr
        have HR := Lib.hid hr
        have i0 : (0 : Int) ≤ (k : Int) := Int.natCast_nonneg _
        have i1 : (k : Int) < 113 := by omega
        have hbs := hb.size
        clear hr
        go_wp2_with fail
        go_region_held3 (fun w' => w'.cell? ⟨g, k * 6, none⟩ = some (.string ⟨r.name.toArray⟩))
          (first
            | go_keep
            | (rw [hb2.cell (by simp; omega)]; assumption))
          (first
            | (go_at_call 18; refine (refUpper_any s _ hs).mono ?_; rintro e w2 ⟨rfl, hb2⟩)
            | fail)
        have hb3 : Below w1.heap.size w1 w2 := hb.trans ((Below.refl _ _).drew.trans (hb2.mono (by simp; omega)))
        have hbx : w2.heap[w.heap.size]? = _ := (hb3.block w.heap.size (by have := hb1.size; simp at this; omega)).trans ((hb1.block w.heap.size (by omega)).trans (heap_alloc_new w _))
        have hown2 := ownsRow_belowAll hown ((Below.refl _ _).drew.trans (hb2.mono (by simp)))
        obtain ⟨⟨d0, d1, d2, d3, d4, d5⟩, hfz⟩ := box6 hbx
        have z0 := hfz 0
        have z1 := hfz 1
        have z2 := hfz 2
        have z3 := hfz 3
        have z4 := hfz 4
        have z5 := hfz 5
        obtain ⟨c0, c1, c2, c3, c4, c5⟩ := own_cells hown2 HR.out
        clear hfz hbx
        have hul : (upS s).toList = upL s.data.toList := by rw [Lib.toList_data]; rfl
        have hgt : g ≠ w.heap.size := by omega
        by_cases hn : r.name = upL s.data.toList
        · have ht : (r.name == (upS s).toList) = true := by rw [hul, hn]; exact beq_self_eq_true _
          have HG := Lib.hid (Verbs.get_hit HR.out hn)
          clear hn hul
          rw [ht]
          clear ht
          go_wp2
          refine bodyPost_ret (v := .tuple #[rowAgg r, .bool true]) (by simp [results, Try.results16, go_sem, d0, d1, d2, d3, d4, d5, rowAgg, rowCells]) rfl ⟨?_, ?_⟩
          · rw [HG.out]; rfl
          · have hb0 : Below w.heap.size w w2 := ((Below.refl _ _).alloc (Nat.le_refl _) _).trans ((hb1.mono (by omega)).trans (hb3.mono (by have := hb1.size; simp at this; omega)))
            exact (((((hb0.setCell (Nat.le_refl _) _).setCell (Nat.le_refl _) _).setCell (Nat.le_refl _) _).setCell (Nat.le_refl _) _).setCell (Nat.le_refl _) _).setCell (Nat.le_refl _) _
        · have ht : (r.name == (upS s).toList) = false := by rw [hul]; exact beq_eq_false_iff_ne.2 hn
          have HM := Lib.hid (hmiss.succ HR.out hn)
          clear hn hul d0 d1 d2 d3 d4 d5 z0 z1 z2 z3 z4 z5 c0 c1 c2 c3 c4 c5
          rw [ht]
          clear ht
          go_wp2
          go_roundw
          case rel => exact ⟨k + 1, by omega, by go_num, hown2, hb3, HM.out⟩
          case measure => simp [intOf]; omega
      · have HG := Lib.hid (Verbs.get_miss hmiss (by rw [Verbs.refRows_length]; omega))
        have hbx : wr.heap[w.heap.size]? = _ := (hb.block w.heap.size (by have := hb1.size; simp at this; omega)).trans ((hb1.block w.heap.size (by omega)).trans (heap_alloc_new w _))
        obtain ⟨⟨d0, d1, d2, d3, d4, d5⟩, hfz⟩ := box6 hbx
        have z0 := hfz 0
        have z1 := hfz 1
        have z2 := hfz 2
        have z3 := hfz 3
        have z4 := hfz 4
        have z5 := hfz 5
        clear hfz hbx
        go_wp2
        refine bodyPost_ret (v := .tuple #[rowAgg Verbs.empty, .bool false]) (by simp [results, Try.results16, go_sem, d0, d1, d2, d3, d4, d5, rowAgg, rowCells, Verbs.empty]) rfl ⟨?_, ?_⟩
        · rw [HG.out]; rfl
        · have hb0 : Below w.heap.size w wr := ((Below.refl _ _).alloc (Nat.le_refl _) _).trans ((hb1.mono (by omega)).trans (hb.mono (by have := hb1.size; simp at this; omega)))
          exact (((((hb0.setCell (Nat.le_refl _) _).setCell (Nat.le_refl _) _).setCell (Nat.le_refl _) _).setCell (Nat.le_refl _) _).setCell (Nat.le_refl _) _).setCell (Nat.le_refl _) _
end Go.Proofs.Ytdoddnnggamaiaa
