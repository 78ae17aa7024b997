/- slices.DeleteFunc, at a row of chunks. -/
import Derived.Test.YtefoieloakfhfaaSweep
namespace Pantry
open Go Go.RowKit
theorem first_empty {cs : List (List Txt)} (h : ¬ ∀ c ∈ cs, c ≠ []) : ∃ k : Nat, cs[k]? = some [] ∧ ∀ c ∈ cs.take k, c ≠ [] := by
  induction cs with
  | nil => exact absurd (by simp) h
  | cons c cs ih =>
    by_cases hc : c = []
    · subst hc; exact ⟨0, rfl, by simp⟩
    · obtain ⟨k, h1, h2⟩ := ih (fun hh => h (by
        intro x hx
        rcases List.mem_cons.1 hx with rfl | hx
        · exact hc
        · exact hh x hx))
      refine ⟨k + 1, by simpa using h1, ?_⟩
      intro x hx
      rw [List.take_succ_cons] at hx
      rcases List.mem_cons.1 hx with rfl | hx
      · exact hc
      · exact h2 x hx
theorem first_le {cs : List (List Txt)} {k l : Nat} (h1 : cs[k]? = some []) (h2 : ∀ c ∈ cs.take l, c ≠ []) : l ≤ k := by
  by_cases h : l ≤ k
  · exact h
  · exact absurd rfl (h2 [] (List.mem_of_getElem? (i := k) (by rw [List.getElem?_take, if_pos (by omega)]; exact h1)))
theorem kept_first {gs : List Nat} {cs : List (List Txt)} {k : Nat} (hl : gs.length = cs.length) (h1 : cs[k]? = some []) (h2 : ∀ c ∈ cs.take k, c ≠ []) : kept (gs.take (k + 1)) (cs.take (k + 1)) = gs.take k := by
  have hk := (List.getElem?_eq_some_iff.1 h1).1
  rw [kept_snoc (List.getElem?_eq_getElem (by omega)) h1]
  rw [kept_none (by simp; omega) h2]
  simp
end Pantry
namespace Go.Proofs.Ytefoieloakfhfaa
open Go.RowKit Pantry

/-- A row that has become another, in its own block. -/
def GonePost (v : Value) (ys : List Nat) (w : World) (e : Ending) (w' : World) : Prop :=
  ∃ v', e = .returned v' ∧ w'.ownsRow 0 67 1 v' ys.length (ys.map ptr) ∧ Chg (fun q => v.ownBlock = some q) w w' ∧ ∀ q, v'.ownBlock = some q → v.ownBlock = some q ∨ w.heap.size ≤ q
/-- What holds within the loop. -/
structure SwInv (sb cap m : Nat) (gs : List Nat) (cs : List (List Txt)) (w wr : World) (i j : Nat) (cur : List Value) : Prop where
  here : wr.heap[sb]? = some (.cells cur.toArray 67)
  size : cur.length = cap
  got : cur.take i = (kept (gs.take j) (cs.take j)).map ptr
  len : (kept (gs.take j) (cs.take j)).length = i
  rest : ∀ q, j ≤ q → q < m → cur[q]? = (gs[q]?).map ptr
  chg : Chg (fun q => q = sb) w wr

set_option maxHeartbeats 4000000 in
set_option maxRecDepth 100000 in
theorem delfunc_any (w : World) (v : Value) (gs : List Nat) (cs : List (List Txt)) (hrow : w.ownsRow 0 67 1 v cs.length (gs.map ptr)) (hch : ∀ (i g : Nat) (c : List Txt), gs[i]? = some g → cs[i]? = some c → ChunkAt w g c) (hf : Fits cs)
    (hnb : ∀ k, v.ownBlock = some k → k ∉ gs) : Calls Try.prog 58 #[v, .func (.func 59) #[] #[]] w (GonePost v (kept gs cs) w) := by
  have hi := index_any w v gs cs hrow hch hf
  have hl : gs.length = cs.length := by have := hrow.1; simpa using this
  by_cases hall : ∀ c ∈ cs, c ≠ []
  · have HI := Lib.hid (hi.mono (R' := fun e w' => e = .returned (.int .i64 (-1)) ∧ w = w') (by
      rintro e w' ⟨rfl, ⟨rfl, -⟩ | ⟨k, -, h1, -⟩⟩
      · exact ⟨rfl, rfl⟩
      · exact absurd rfl (hall [] (List.mem_of_getElem? h1))))
    have HEND := Lib.hid (show GonePost v (kept gs cs) w (.returned v) w from ⟨v, rfl, by rw [kept_none hl hall, hl]; exact hrow, Chg.refl _ _, fun q h => .inl h⟩)
    obtain ⟨a0, c0, hv, -⟩ := ownsRow_rd hrow (ptr_one gs)
    subst hv
    clear hi hall hrow hch hf hnb
    obtain ⟨m, hm⟩ : ∃ m, cs.length = m := ⟨_, rfl⟩
    rw [hm] at HI HEND ⊢
    clear hm hl
    go_enter Try.func58, Try.ntmps58
    go_wp2_with (refine HI.out.mono ?_; rintro e w' ⟨rfl, rfl⟩)
    go_ret
    exact HEND.out
  · obtain ⟨k, hk1, hk2⟩ := first_empty hall
    have hkl := (List.getElem?_eq_some_iff.1 hk1).1
    have HI := Lib.hid (hi.mono (R' := fun e w' => e = .returned (.int .i64 k) ∧ w = w') (by
      rintro e w' ⟨rfl, ⟨rfl, h⟩ | ⟨l, rfl, h1, h2⟩⟩
      · exact absurd h hall
      · have a := first_le hk1 h2
        have b := first_le h1 hk2
        obtain rfl : l = k := by omega
        exact ⟨rfl, rfl⟩))
    have hrl := hf.rows
    rcases hrow.2 with ⟨_, h0⟩ | ⟨sb, cap, cur, rfl, hbg, hg, hnc, hcm, hcs, htake⟩
    · omega
    · have HSB := Lib.hid (show sb ∉ gs from hnb sb rfl)
      have hcl : cur.toList.length = cap := by simpa using hcs
      obtain ⟨m, hm⟩ : ∃ m, cs.length = m := ⟨_, rfl⟩
      have HCH := Lib.hid hch
      have HF := Lib.hid hf
      have HL := Lib.hid hl
      have HM := Lib.hid hm
      have HS0 := Lib.hid (show SwInv sb cap m gs cs w w k (k + 1) cur.toList from by
        refine ⟨by simpa using hg, hcl, ?_, ?_, ?_, Chg.refl _ _⟩
        · rw [kept_first hl hk1 hk2, List.map_take, ← htake, List.take_take]
          congr 1; omega
        · rw [kept_first hl hk1 hk2]; simp; omega
        · intro q h1 h2
          have h3 : (cur.toList.take (cs.length * 1))[q]? = (gs.map ptr)[q]? := by rw [htake]
          rw [List.getElem?_take, if_pos (by omega), List.getElem?_map] at h3
          exact h3)
      rw [hm] at HI hkl hnc hrl ⊢
      have hke : ((k : Int) == -1) = false := by rw [beq_eq_false_iff_ne]; omega
      clear hi hall hrow hch hf hnb hk1 hk2 hg hcs htake hcl hl hm
      unfold maxLen at hcm
      go_enter Try.func58, Try.ntmps58
      go_wp2_with (refine HI.out.mono ?_; rintro e w' ⟨rfl, rfl⟩)
      go_loopw [5, 6] (fun a b wr => ∃ i j : Nat, i < j ∧ j ≤ m ∧ a = .int .i64 i ∧ b = .int .i64 j ∧ ∃ cur, Hid (SwInv sb cap m gs cs w wr i j cur)) (fun _ b _ => m - (intOf b).toNat)
      case atStart => exact ⟨k, k + 1, by omega, by omega, rfl, by go_num, _, HS0⟩
      case round =>
        obtain ⟨i, j, hij, hjm, rfl, rfl, cur2, HV⟩ := hrel
        have hcl := HV.out.size
        by_cases hlt : j < m
        · obtain ⟨c, hc⟩ : ∃ c, cs[j]? = some c := ⟨_, List.getElem?_eq_getElem (by rw [HM.out]; exact hlt)⟩
          obtain ⟨g, hg⟩ : ∃ g, gs[j]? = some g := ⟨_, List.getElem?_eq_getElem (by rw [HL.out, HM.out]; exact hlt)⟩
          have hchw : ChunkAt wr g c := HV.out.chg.heap (HCH.out j g c hg hc) (fun e => HSB.out (by rw [← e]; exact List.mem_of_getElem? hg))
          have HE := Lib.hid (empty_any wr g c hchw (HF.out.chunk c (List.mem_of_getElem? hc)))
          have hcell : wr.cell? ⟨sb, j, none⟩ = some (.pointer (some ⟨g, 0, none⟩)) := by
            rw [cell_of_row wr sb _ _ _ _ HV.out.here, ← Array.getElem?_toList]
            show cur2[j]? = _
            rw [HV.out.rest j (Nat.le_refl _) hlt, hg]
            rfl
          obtain ⟨u, hu⟩ : ∃ u, wr.cell? ⟨sb, i, none⟩ = some u := by
            rw [cell_of_row wr sb _ _ _ _ HV.out.here, ← Array.getElem?_toList]
            exact ⟨_, List.getElem?_eq_getElem (by show i < cur2.length; omega)⟩
          have hfr : wr.frozen? ⟨sb, i, none⟩ = false := frozen_of_row wr sb i _ _ HV.out.here
          have HSN := Lib.hid (kept_snoc hg hc)
          obtain ⟨b, hb⟩ : ∃ b, c.isEmpty = b := ⟨_, rfl⟩
          rw [hb] at HE HSN
          cases b
          · have HN := Lib.hid (show SwInv sb cap m gs cs w (wr.setCell ⟨sb, i, none⟩ (.pointer (some ⟨g, 0, none⟩))) (i + 1) (j + 1) (cur2.set i (.pointer (some ⟨g, 0, none⟩))) from by
              have hU := (Upd.same HV.out.here).setCell i (.pointer (some ⟨g, 0, none⟩))
              have hSN : kept (gs.take (j + 1)) (cs.take (j + 1)) = kept (gs.take j) (cs.take j) ++ [g] := HSN.out
              refine ⟨by simpa using hU.here, by rw [List.length_set]; exact hcl, ?_, ?_, ?_, HV.out.chg.setCell (fun _ => rfl) _⟩
              · rw [hSN, List.take_add_one, List.getElem?_set_self (by omega), List.take_set_of_le (Nat.le_refl _), HV.out.got]
                simp [ptr]
              · rw [hSN, List.length_append, HV.out.len]; rfl
              · intro q h1 h2
                rw [List.getElem?_set_ne (by omega)]
                exact HV.out.rest q (by omega) h2)
            clear hc hg hchw hb
            go_wp2_with (refine HE.out.mono ?_; rintro e w' ⟨rfl, rfl⟩)
            go_roundw
            case rel => exact ⟨i + 1, j + 1, by omega, by omega, by go_num, by go_num, _, HN⟩
            case measure => simp [intOf]; omega
          · have HN := Lib.hid (show SwInv sb cap m gs cs w wr i (j + 1) cur2 from by
              have hSN : kept (gs.take (j + 1)) (cs.take (j + 1)) = kept (gs.take j) (cs.take j) ++ [] := HSN.out
              rw [List.append_nil] at hSN
              exact ⟨HV.out.here, hcl, by rw [hSN]; exact HV.out.got, by rw [hSN]; exact HV.out.len, fun q h1 h2 => HV.out.rest q (by omega) h2, HV.out.chg⟩)
            clear hc hg hchw hb
            go_wp2_with (refine HE.out.mono ?_; rintro e w' ⟨rfl, rfl⟩)
            go_roundw
            case rel => exact ⟨i, j + 1, by omega, by omega, rfl, by go_num, _, HN⟩
            case measure => simp [intOf]; omega
        · obtain rfl : j = m := by omega
          have hclr : ∀ ty c, (Builtin.clear_ #[60] ty #[.slice (some ⟨sb, i, none⟩) (j - i) c]).run Try.prog wr = .ok (.tuple #[]) (wr.setRow sb (splice cur2 i (List.replicate (j - i) (.pointer none))).toArray) := fun ty c =>
            run_clear_gen wr 60 ty 67 sb i (j - i) c _ 67 (.pointer none) Try.underlying60 (elZero wr) rfl rfl HV.out.here (by omega)
          have HEND := Lib.hid (show GonePost (.slice (some ⟨sb, 0, none⟩) j cap) (kept gs cs) w (.returned (.slice (some ⟨sb, 0, none⟩) i cap)) (wr.setRow sb (splice cur2 i (List.replicate (j - i) (.pointer none))).toArray) from by
            have hm := HM.out
            have hl := HL.out
            have hgot := HV.out.got
            have hlen := HV.out.len
            have e1 : gs.take j = gs := List.take_of_length_le (by omega)
            have e2 : cs.take j = cs := List.take_of_length_le (by omega)
            rw [e1, e2] at hgot hlen
            have hsl : (splice cur2 i (List.replicate (j - i) (Value.pointer none))).length = cap := by rw [length_splice _ _ _ (by rw [List.length_replicate]; omega), hcl]
            refine ⟨_, rfl, ⟨by simp, .inr ⟨sb, cap, _, by rw [hlen], Nat.zero_le _, setRow_heap wr sb _ _ _ _ HV.out.here, by omega, by unfold maxLen; omega, ?_, ?_⟩⟩, ?_, fun q hq => .inl hq⟩
            · rw [List.size_toArray, hsl, Nat.mul_one]
            · rw [← hgot, hlen]
              show (splice cur2 i _).take (i * 1) = _
              unfold splice
              rw [Nat.mul_one, List.take_append_of_le_length (by rw [List.length_take]; omega), List.take_take, Nat.min_self]
            · exact (HV.out.chg.setRow (fun _ => rfl) _).mono (fun q _ e => by subst e; rfl))
          have hb4 : ¬ (cap = i) := by omega
          clear hcl
          go_wp2_with (refine wpl_clear_run _ rfl _ 60 rfl _ rfl (hclr _ _) ?_)
          go_ret
          exact HEND.out
end Go.Proofs.Ytefoieloakfhfaa
