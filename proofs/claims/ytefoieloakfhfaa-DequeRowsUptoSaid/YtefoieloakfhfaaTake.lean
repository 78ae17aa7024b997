/- Texts taken out of a chunk: take. -/
import Derived.Test.YtefoieloakfhfaaPush4
namespace Pantry
def sumW (l : List Txt) : Nat := (l.map fun x : Txt => 16 + x.length).sum
theorem sumW_take {l : List Txt} {j : Nat} {x : Txt} (h : l[j]? = some x) : sumW (l.take (j + 1)) = sumW (l.take j) + (16 + x.length) := by
  rw [List.take_add_one, h]; simp [sumW]
theorem sumW_parts (c : List Txt) {a t : Nat} (h : a ≤ t) : sumW (c.take a ++ c.drop t) + sumW ((c.drop a).take (t - a)) = sumW c := by
  have e1 : c = c.take a ++ (c.drop a).take (t - a) ++ c.drop t := by
    have h1 : (c.drop a).take (t - a) ++ (c.drop a).drop (t - a) = c.drop a := List.take_append_drop _ _
    rw [List.drop_drop, show a + (t - a) = t by omega] at h1
    rw [List.append_assoc, h1, List.take_append_drop]
  have : sumW c = sumW (c.take a ++ (c.drop a).take (t - a) ++ c.drop t) := by rw [← e1]
  rw [this]
  simp [sumW]; omega
theorem sumW_append (a b : List Txt) : sumW (a ++ b) = sumW a + sumW b := by simp [sumW]
theorem sumW_le (c : List Txt) (j : Nat) : sumW (c.take j) ≤ sumW c ∧ sumW (c.drop j) ≤ sumW c := by
  have h : sumW c = sumW (c.take j) + sumW (c.drop j) := by rw [← sumW_append, List.take_append_drop]
  omega
theorem costOf_ge {cs : List (List Txt)} {k : Nat} {c : List Txt} (h : cs[k]? = some c) : sumW c ≤ costOf cs := by
  have := costOf_set (c' := ([] : List Txt)) h
  simp [sumW] at this ⊢
  omega
theorem total_ge {cs : List (List Txt)} {k : Nat} {c : List Txt} (h : cs[k]? = some c) : c.length ≤ total cs := by
  have := total_set (c' := ([] : List Txt)) h
  simp at this
  omega
end Pantry
namespace Go.Proofs.Ytefoieloakfhfaa
open Go.RowKit Pantry

theorem DeqAt.turned {w w2 : World} {d : Nat} {v : Value} {gs : List Nat} {cs : List (List Txt)} (h : DeqAt w d v gs cs) {k g : Nat} {c' : List Txt} (hg : gs[k]? = some g)
    (h1 : w2.heap[g]? = some (.cells (chunkL c').toArray 66)) (h2 : w2.heap[d]? = some (.cells #[v, .int .i64 (total (cs.set k c') : Nat), .int .i64 (costOf (cs.set k c') : Nat)] 62)) (ho : Chg (fun j => j = d ∨ j = g) w w2) :
    DeqAt w2 d v gs (cs.set k c') := by
  refine ⟨h2, ?_, ?_, h.nodup, h.notd, h.rowd, h.rowg⟩
  · rw [List.length_set]
    refine Chg.ownsRow h.row ho fun j hj e => ?_
    rcases e with rfl | rfl
    · exact h.rowd hj
    · exact h.rowg _ hj (List.mem_of_getElem? hg)
  · intro i gi c hi hc
    have hgi : gi ≠ d := fun e => h.notd (by rw [← e]; exact List.mem_of_getElem? hi)
    rw [List.getElem?_set] at hc
    by_cases hik : k = i
    · subst hik
      rw [hg] at hi; cases hi
      rw [if_pos rfl] at hc
      split at hc
      · cases hc; exact h1
      · cases hc
    · rw [if_neg hik] at hc
      have hne : gi ≠ g := fun e => hik (nodup_inj h.nodup hg (by rw [hi, e]))
      exact ho.heap (h.chunk i gi c hi hc) (by rintro (e | e); exact hgi e; exact hne e)

set_option maxHeartbeats 8000000 in
set_option maxRecDepth 100000 in
theorem take_any (w : World) (d : Nat) (v : Value) (gs : List Nat) (cs : List (List Txt)) (k a t : Nat) (c : List Txt) (h : DeqAt w d v gs cs) (hf : Fits cs) (hk : cs[k]? = some c) (hat : a ≤ t) (htn : t ≤ c.length) :
    Calls Try.prog 38 #[.pointer (some ⟨d, 0, none⟩), .int .i64 k, .int .i64 a, .int .i64 t] w (StayPost d v gs (cs.set k (c.take a ++ c.drop t)) (.tuple #[]) w) := by
  obtain ⟨g, sb, cap, hg, hv, hkl, hnc, hcell, hch⟩ := h.at hk
  obtain ⟨⟨d0, d1, d2⟩, -⟩ := three h.head
  have hgd : g ≠ d := fun e => h.notd (by rw [← e]; exact List.mem_of_getElem? hg)
  have hsd : sb ≠ d := fun e => h.rowd (by rw [hv, ← e]; rfl)
  have hc32 := hf.chunk c (List.mem_of_getElem? hk)
  have hT := total_set (c' := c.take a ++ c.drop t) hk
  have hC : costOf (cs.set k (c.take a ++ c.drop t)) + sumW c = costOf cs + sumW (c.take a ++ c.drop t) := costOf_set (c' := c.take a ++ c.drop t) hk
  have hP := sumW_parts c hat
  have hge := costOf_ge hk
  have hgt := total_ge hk
  have hcl := costOf_le hf.text
  have htot := hf.total
  have hlen : (c.take a ++ c.drop t).length = c.length - (t - a) := by simp; omega
  rw [hlen] at hT
  have hrl := hf.rows
  have hq := fun j => (sumW_le (c.drop a) j).1
  have hqc : sumW (c.drop a) ≤ sumW c := (sumW_le c a).2
  have hxl : ∀ x ∈ c, x.length ≤ 1048576 := hf.text c (List.mem_of_getElem? hk)
  subst hv
  obtain ⟨m, hm⟩ : ∃ m, cs.length = m := ⟨_, rfl⟩
  obtain ⟨N, hN⟩ : ∃ N, total cs = N := ⟨_, rfl⟩
  obtain ⟨C, hC2⟩ : ∃ C, costOf cs = C := ⟨_, rfl⟩
  obtain ⟨n, hn⟩ : ∃ n, c.length = n := ⟨_, rfl⟩
  rw [hm] at hkl hnc hrl
  rw [hN] at hT hcl htot hgt
  rw [hC2] at hC hcl hge
  rw [hn] at hT htn hc32 hgt
  have HT := Lib.hid (show ((total (cs.set k (c.take a ++ c.drop t)) : Nat) : Int) = (N : Int) - ((t : Int) - (a : Int)) by omega)
  have HC := Lib.hid (show ((costOf (cs.set k (c.take a ++ c.drop t)) : Nat) : Int) = (C : Int) - (sumW ((c.drop a).take (t - a)) : Nat) by omega)
  have HD := Lib.hid h
  have HCH := Lib.hid hch
  have HG := Lib.hid hg
  have HH := Lib.hid h.head
  have HM := Lib.hid hm
  have HN := Lib.hid hN
  have HC2 := Lib.hid hC2
  have HNN := Lib.hid hn
  have HQ := Lib.hid (fun j => Nat.le_trans (hq j) (Nat.le_trans hqc hge))
  have HX := Lib.hid hxl
  rw [hm] at d0
  have hCb : C ≤ 1048576 * 1048592 := Nat.le_trans hcl (Nat.mul_le_mul_right _ htot)
  clear hT hC hP hge hcl hlen hq hqc hxl h hch hg hk hf hm hN hC2 hn d1 d2
  have hb1 : (a : Int) ≤ (t : Int) := by omega
  have hb2 : (t : Int) ≤ 32 := by omega
  have hw1 : IntKind.i64.wrap ((t : Int) - (a : Int)) = (t : Int) - (a : Int) := by rw [IntKind.wrap_i64]; omega
  have hw2 : IntKind.i64.wrap ((N : Int) - ((t : Int) - (a : Int))) = (N : Int) - ((t : Int) - (a : Int)) := by rw [IntKind.wrap_i64]; omega
  obtain ⟨n1, n3⟩ | ⟨n1, n3⟩ := is32 a
  all_goals
    go_enter Try.func38, Try.ntmps38
    go_wp2_with fail
    go_loopw [25] (fun i wr => ∃ j : Nat, j ≤ t - a ∧ i = .int .i64 j ∧ Hid (Upd d (.cells #[.slice (some ⟨sb, 0, none⟩) m cap, .int .i64 (N : Nat), .int .i64 ((C : Int) - (sumW ((c.drop a).take j) : Nat))] 62) w wr)) (fun i _ => t - a - (intOf i).toNat)
    case atStart =>
      refine ⟨0, Nat.zero_le _, rfl, Lib.hid (Upd.same ?_)⟩
      rw [HH.out, HM.out, HN.out, HC2.out]
      simp [sumW]
    case round =>
      obtain ⟨j, hj, rfl, HU⟩ := hrel
      by_cases hlt : j < t - a
      · try (exfalso; have h32 := of_eq_true n3; omega)
        all_goals
          obtain ⟨x, hx⟩ : ∃ x, (c.drop a)[j]? = some x := ⟨_, List.getElem?_eq_getElem (by rw [List.length_drop, HNN.out]; omega)⟩
          have hcx : wr.cell? ⟨g, a + j, none⟩ = some (.string ⟨x.toArray⟩) := by
            have hca : ChunkAt wr g c := (HU.out.other g hgd).trans HCH.out
            rw [List.getElem?_drop] at hx
            exact hca.text hx
          have hxl : x.length ≤ 1048576 := HX.out x (by rw [List.getElem?_drop] at hx; exact List.mem_of_getElem? hx)
          have hs := sumW_take hx
          have hle := HQ.out (j + 1)
          rw [hs] at hle
          obtain ⟨S, hS⟩ : ∃ S, sumW ((c.drop a).take j) = S := ⟨_, rfl⟩
          rw [hS] at hs hle HU
          have HS := Lib.hid hs
          obtain ⟨⟨e0, e1, e2⟩, ef⟩ := three HU.out.here
          have ef2 := ef 2
          have hw3 : IntKind.i64.wrap ((C : Int) - (S : Int) - (16 + (x.length : Int))) = (C : Int) - (S : Int) - (16 + (x.length : Int)) := by rw [IntKind.wrap_i64]; omega
          have HU2 := Lib.hid (HU.out.setCell 2 (.int .i64 ((C : Int) - (S : Int) - (16 + (x.length : Int))))).drew
          clear hx hs hS ef hle
          go_wp2_with fail
          go_region_with (go_at_call 57; refine (weight_any _ _ (by rw [mk_size]; omega)).mono ?_; rintro e w' ⟨rfl, rfl⟩)
          all_goals
            go_wp2_with fail
            go_roundw
            case rel =>
              refine ⟨j + 1, by omega, by go_num, Lib.hid ?_⟩
              rw [HS.out, show ((C : Int) - ((S + (16 + x.length) : Nat) : Int)) = (C : Int) - (S : Int) - (16 + (x.length : Int)) by omega]
              exact HU2.out
            case measure => simp [intOf]; omega
      · obtain rfl : j = t - a := by omega
        obtain ⟨⟨e0, e1, e2⟩, ef⟩ := three HU.out.here
        have ef1 := ef 1
        have HU2 := Lib.hid (HU.out.setCell 1 (.int .i64 ((N : Int) - ((t : Int) - (a : Int)))))
        clear ef
        have HCA := Lib.hid (show ChunkAt (wr.setCell ⟨d, 1, none⟩ (.int .i64 ((N : Int) - ((t : Int) - (a : Int))))) g c from (HU2.out.other g hgd).trans HCH.out)
        go_wp2_with fail
        refine (cut_any _ g a t c HCA.out (by rw [HNN.out]; exact hc32) hat (by rw [HNN.out]; exact htn)).mono ?_
        rintro e w3 ⟨rfl, hU3⟩
        have HU3 := Lib.hid hU3
        clear hU3
        go_wp2_with fail
        go_end0
        have hcg : Chg (fun j => j = d ∨ j = g) w w3 := (HU2.out.chg.mono fun _ _ e => .inl e).trans HU3.out.chg fun _ _ e => .inr e
        refine ⟨rfl, DeqAt.turned HD.out HG.out HU3.out.here ?_ hcg, hcg.mono fun j _ e => ?_⟩
        · rw [HU3.out.other d (fun e => hgd e.symm), HU2.out.here, HM.out, HT.out, HC.out]
          rfl
        · rcases e with rfl | rfl
          · exact .inl rfl
          · exact .inr (.inl (List.mem_of_getElem? HG.out))
end Go.Proofs.Ytefoieloakfhfaa
