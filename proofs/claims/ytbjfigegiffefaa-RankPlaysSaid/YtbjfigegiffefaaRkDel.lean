/- Delete of ranks. -/
import Derived.Test.YtbjfigegiffefaaRkMid
set_option linter.unusedVariables false
set_option linter.unusedSimpArgs false
namespace Go.Proofs.Ytbjfigegiffefaa
open Go.RowKit Pantry

theorem ROp.after {w w1 w2 : World} {r seed d : Nat} {D D1 : Dc} {v : Value} {l' : List Mb} (h : ROp r seed d D1 v l' w1 w2) (f : ∀ k, RFoot r d D1 v k → RFoot r d D v k) (g : Chg (RFoot r d D v) w w1) : ROp r seed d D v l' w w2 := by
  obtain ⟨⟨D2, v2, h1, h2⟩, h3⟩ := h
  exact ⟨⟨D2, v2, h1, fun k hk => (h2 k hk).imp (f k) fun hh => Nat.le_trans g.size hh⟩, g.trans h3 fun j _ hf => f j hf⟩
def RDelPost (r seed d : Nat) (D : Dc) (v : Value) (l : List Mb) (key : List UInt8) (w : World) (e : Ending) (w' : World) : Prop :=
  (∃ (i x : Nat), l[i]? = some (key, x) ∧ e = .returned (.bool true) ∧ ROp r seed d D v (l.take i ++ l.drop (i + 1)) w w') ∨
  ((∀ p ∈ l, p.1 ≠ key) ∧ e = .returned (.bool false) ∧ ROp r seed d D v l w w')
set_option maxHeartbeats 4000000 in
set_option maxRecDepth 100000 in
theorem rkDel_any (w : World) (r seed d : Nat) (D : Dc) (v : Value) (l : List Mb) (key : List UInt8) (h : RkAt w r seed d D v l) (hs : key.length ≤ 140737488351232) :
    Calls Try.prog 33 #[.pointer (some ⟨r, 0, none⟩), .string ⟨key.toArray⟩] w (RDelPost r seed d D v l key w) := by
  have HR := Lib.hid (rkRank_any w r seed d D v l key h hs)
  clear h
  go_enter Try.func33, Try.ntmps33
  go_wp2_with fail
  refine HR.out.mono ?_
  rintro e w1 ⟨hres, hsame⟩
  have HM := Lib.hid hsame
  rcases hres with ⟨i, x, hix, rfl⟩ | ⟨hx, rfl⟩
  · obtain ⟨⟨D1, h1, f1⟩, g1⟩ := hsame
    have H1 := Lib.hid h1
    have HF1 := Lib.hid f1
    have HG1 := Lib.hid g1
    have HIX := Lib.hid hix
    have hil := (List.getElem?_eq_some_iff.1 hix).1
    have hfew := h1.good.few
    have htext : key.length ≤ 1048576 := h1.good.text _ (List.mem_of_getElem? hix)
    have hcut := cut_cost hix
    have hcl := rkCost_le h1.good.text
    have HCF := Lib.hid (cut_filter hix h1.keys)
    have HGC := Lib.hid (h1.good.cut i)
    obtain ⟨n, hn⟩ : ∃ n, l.length = n + 1 := ⟨l.length - 1, by omega⟩
    have hl2 : (l.take i ++ l.drop (i + 1)).length = n := by simp; omega
    have hrow1 := h1.row
    rw [hn] at hrow1
    have HD := Lib.hid (delete_any w1 0 i n v (rkCells l) hrow1 (by omega) (rkCells_one l))
    rw [rkCells_take, rkCells_drop, ← rkCells_append] at HD
    obtain ⟨⟨h0, hp1, h2, h3⟩, hfz⟩ := four h1.head
    have hfz2 := hfz 2
    have hrl := block_lt h1.head
    have hnv : v.ownBlock ≠ some r := fun hk => by
      obtain ⟨c, hc⟩ := row_type h1.row hk
      exact types_ne hc h1.head (by decide) rfl
    obtain ⟨e0, he0, hek, -⟩ := kv_mem h1.kv (List.mem_of_getElem? hix)
    have hdl : D1.ents.length ≤ 268435456 := by rw [h1.few]; omega
    have HDD : Hid (∀ W, DictAt W d D1 → Calls Try.prog 55 #[.pointer (some ⟨d, 0, none⟩), .string ⟨key.toArray⟩] W (fun e W' => e = .returned (.bool true) ∧ DOp d D1 (D1.kv.filter fun p => !(p.1 == key)) W W')) := Lib.hid fun W hW =>
      (del_any W d D1 key hW H1.out.wf hs hdl).mono fun e W' hp => by
        rcases hp with ⟨-, h1, h2⟩ | ⟨h1, -⟩
        · exact ⟨h1, h2⟩
        · exact absurd hek (h1 e0 he0)
    have HL2 := Lib.hid hl2
    have HN := Lib.hid hn
    clear h1 hix hrow1 h0 hfz he0 hn hl2
    go_wp2_with fail
    refine HD.out.mono ?_
    rintro e w2 ⟨v', rfl, hr2, hg2, hv2⟩
    obtain ⟨a', c', rfl, -⟩ := ownsRow_rd hr2 (rkCells_one _)
    have hh2 : w2.heap[r]? = _ := (hg2.block r hrl (by intro e; exact hnv e.symm)).trans H1.out.head
    obtain ⟨⟨k0, k1, k2, k3⟩, kf⟩ := four hh2
    have kf2 := kf 2
    have hr3 : w2.ownsRow 0 34 2 (.slice a' n c') (l.take i ++ l.drop (i + 1)).length (rkCells (l.take i ++ l.drop (i + 1))) := by rw [HL2.out]; exact hr2
    have hm := H1.out.mid.row_set hr3 hg2
    have HMID := Lib.hid hm.1
    obtain ⟨⟨-, q1, -, -⟩, -⟩ := four hm.1.head
    have HR2 := Lib.hid (show _ ∧ _ ∧ _ from ⟨hr3, hg2, hv2⟩)
    clear hr2 hr3 hg2 hv2 hh2 k0 k1 k3 kf hm hp1 h2 h3 hfz2 HD
    go_wp2_with fail
    refine (HDD.out _ HMID.out.dict).mono ?_
    rintro e w4 ⟨rfl, ho⟩
    have hcc : (rkCost l : Int) - (40 + (key.length : Int)) = ((rkCost (l.take i ++ l.drop (i + 1)) : Nat) : Int) := by
      have : (key, x).1.length = key.length := rfl
      omega
    obtain ⟨hop, j3, j3f⟩ := rk_changed H1.out HR2.out.1 HR2.out.2.1 HR2.out.2.2 ho (((H1.out.kv.filter _).trans (by rw [HCF.out]))) HGC.out _ hcc
    have HOP := Lib.hid hop
    obtain ⟨cl, hcl2⟩ : ∃ c, rkCost l = c := ⟨_, rfl⟩
    rw [hcl2] at j3 hcl hcc HOP
    rw [hcc] at HOP
    clear hop ho hcut hcl2
    go_wp2_with fail
    go_ret
    exact .inl ⟨i, x, HIX.out, rfl, HOP.out.after HF1.out HG1.out⟩
  · have HX := Lib.hid hx
    clear hx HR
    go_wp2_with fail
    go_ret
    exact .inr ⟨HX.out, rfl, HM.out.op⟩
end Go.Proofs.Ytbjfigegiffefaa
