/- Chunks. -/
import Derived.Test.YtefoieloakfhfaaZTake
namespace Pantry
open Go Go.RowKit
def intsL (l : List Nat) : List Value := l.map fun (n : Nat) => Value.int .i64 (n : Int)
theorem intsL_length (l : List Nat) : (intsL l).length = l.length := by simp [intsL]
theorem intsL_one (l : List Nat) : ∀ u ∈ intsL l, u.oneCell' = true := by
  intro u hu; simp only [intsL, List.mem_map] at hu; obtain ⟨n, _, rfl⟩ := hu; rfl
theorem intsL_snoc (l : List Nat) (n : Nat) : intsL l ++ [.int .i64 (n : Int)] = intsL (l ++ [n]) := by simp [intsL]
theorem intsL_get (l : List Nat) (j : Nat) : (intsL l)[j]? = (l[j]?).map fun (n : Nat) => Value.int .i64 (n : Int) := by simp [intsL]
def sizesL (cs : List (List Txt)) : List Nat := cs.map (·.length)
theorem sizesL_take {cs : List (List Txt)} {k : Nat} {c : List Txt} (h : cs[k]? = some c) : sizesL (cs.take (k + 1)) = sizesL (cs.take k) ++ [c.length] := by
  rw [List.take_add_one, h]; simp [sizesL]
end Pantry
namespace Go.Proofs.Ytefoieloakfhfaa
open Go.RowKit Pantry

theorem Try.intsT : ElemT Try.prog 30 3 1 8 (.int .i64 0) := ⟨Try.underlying30, by kernel_rfl, rfl, by decide, by decide⟩
/-- It returns numbers in a row of its own. -/
def IntsPost (l : List Nat) (w : World) (e : Ending) (w' : World) : Prop := ∃ v, e = .returned v ∧ w'.ownsRow w.heap.size 3 1 v l.length (intsL l) ∧ Below w.heap.size w w'

theorem chunks_nil (w : World) : Calls Try.prog 13 #[.pointer none] w fun e w' => e = .returned (.slice none 0 0) ∧ w = w' := by
  go_enter Try.func13, Try.ntmps13
  go_wp2_with fail
  go_ret
  exact ⟨rfl, rfl⟩

set_option maxHeartbeats 2000000 in
set_option maxRecDepth 100000 in
theorem chunks_any (w : World) (d : Nat) (v : Value) (gs : List Nat) (cs : List (List Txt)) (h : DeqAt w d v gs cs) (hf : Fits cs) :
    Calls Try.prog 13 #[.pointer (some ⟨d, 0, none⟩)] w (IntsPost (sizesL cs) w) := by
  have HD := Lib.hid h
  have HF := Lib.hid hf
  have hrl := hf.rows
  obtain ⟨⟨d0, -, -⟩, -⟩ := three h.head
  obtain ⟨a0, c0, hv, -⟩ := ownsRow_rd h.row (ptr_one gs)
  subst hv
  have hdl := h.lt d (.inl rfl)
  obtain ⟨m, hm⟩ : ∃ m, cs.length = m := ⟨_, rfl⟩
  rw [hm] at d0 hrl
  have HM := Lib.hid hm
  clear h hf hm
  go_enter Try.func13, Try.ntmps13
  go_wp2_with (at_make; refine wpl_make Try.intsT rfl _ _ rfl w.heap.size .i64 .i64 m rfl rfl rfl (by omega) (Nat.le_refl _) ?_; intro w1 hown1 hg1; have e0 : w1.cell? ⟨d, 0, none⟩ = some _ := (World.cell?_of_block (w := w) (hg1.block d hdl (by simp))).trans d0)
  have hb1 : Below w.heap.size w w1 := grownBy_below (Below.refl _ _) hg1 (by simp) (Nat.le_refl _)
  clear hg1
  go_loopw [3, 19] (fun v i wr => ∃ k : Nat, k ≤ m ∧ i = .int .i64 k ∧ Hid (wr.ownsRow w.heap.size 3 1 v k (intsL (sizesL (cs.take k)))) ∧ Below w.heap.size w wr) (fun _ i _ => m - (intOf i).toNat)
  case atStart => exact ⟨0, Nat.zero_le _, rfl, Lib.hid (by simpa [sizesL, intsL] using hown1), hb1⟩
  case round =>
    obtain ⟨k, hk, rfl, HO, hb⟩ := hrel
    by_cases hlt : k < m
    · obtain ⟨c, hc⟩ : ∃ c, cs[k]? = some c := ⟨_, List.getElem?_eq_getElem (by rw [HM.out]; exact hlt)⟩
      have hdw := DeqAt.chg (S := fun j => w.heap.size ≤ j) HD.out (Chg.of_below hb) (fun j hj h1 => absurd (HD.out.lt j hj) (by omega))
      obtain ⟨g, sb, cap, -, hv', -, -, hcell, hch⟩ := hdw.at hc
      have hn := hch.n (HF.out.chunk c (List.mem_of_getElem? hc))
      cases hv'
      have HS := Lib.hid (sizesL_take hc)
      obtain ⟨n, hn2⟩ : ∃ n, c.length = n := ⟨_, rfl⟩
      rw [hn2] at hn HS
      have hbs := hb.size
      clear hc hdw hch hn2
      go_wp2_with (at_builtin; (refine wpl_append1 Try.intsT rfl _ _ rfl w.heap.size rfl HO.out #[.int .i64 n] rfl rfl (by simp [Value.oneCell']) (by omega) hbs ?_); intro v2 w2 hown2 hgrow2 hb2 hfr2)
      have HO2 := Lib.hid (show w2.ownsRow w.heap.size 3 1 v2 (k + 1) (intsL (sizesL (cs.take (k + 1)))) by rw [HS.out, ← intsL_snoc]; exact hown2)
      have hb3 := hb.trans hb2
      clear hown2 hgrow2 hb2 hfr2
      go_roundw
      case rel => exact ⟨k + 1, by omega, by go_num, HO2, hb3⟩
      case measure => simp [intOf]; omega
    · obtain rfl : k = m := by omega
      have HF2 := Lib.hid (show cs.take k = cs by rw [List.take_of_length_le (by rw [HM.out]; exact Nat.le_refl _)])
      go_wp2_with fail
      go_ret
      refine ⟨_, rfl, ?_, hb⟩
      have h1 := HO.out
      rw [HF2.out] at h1
      rw [show (sizesL cs).length = k by simp [sizesL, HM.out]]
      exact h1
end Go.Proofs.Ytefoieloakfhfaa

/- Empty chunks go: slices.IndexFunc, slices.DeleteFunc, sweep. -/
namespace Pantry
open Go Go.RowKit
/-- The pointers of the chunks that hold something. -/
def kept (gs : List Nat) (cs : List (List Txt)) : List Nat := ((gs.zip cs).filter fun p => !p.2.isEmpty).map (·.1)
def full (cs : List (List Txt)) : List (List Txt) := cs.filter fun c => !c.isEmpty
theorem kept_cons (g : Nat) (gs : List Nat) (c : List Txt) (cs : List (List Txt)) : kept (g :: gs) (c :: cs) = if c.isEmpty then kept gs cs else g :: kept gs cs := by
  unfold kept
  rw [List.zip_cons_cons, List.filter_cons]
  cases c.isEmpty <;> simp
theorem full_cons (c : List Txt) (cs : List (List Txt)) : full (c :: cs) = if c.isEmpty then full cs else c :: full cs := by
  unfold full
  rw [List.filter_cons]
  cases c.isEmpty <;> simp
theorem kept_snoc {gs : List Nat} {cs : List (List Txt)} {j g : Nat} {c : List Txt} (hg : gs[j]? = some g) (hc : cs[j]? = some c) :
    kept (gs.take (j + 1)) (cs.take (j + 1)) = kept (gs.take j) (cs.take j) ++ (if c.isEmpty then [] else [g]) := by
  have h1 := (List.getElem?_eq_some_iff.1 hg).1
  have h2 := (List.getElem?_eq_some_iff.1 hc).1
  rw [List.take_add_one, List.take_add_one, hg, hc]
  unfold kept
  rw [List.zip_append (by simp; omega)]
  cases h : c.isEmpty <;> simp [h]
theorem kept_none {gs : List Nat} {cs : List (List Txt)} (h : gs.length = cs.length) (hc : ∀ c ∈ cs, c ≠ []) : kept gs cs = gs := by
  induction cs generalizing gs with
  | nil => cases gs with
    | nil => rfl
    | cons g gs => simp at h
  | cons c cs ih => cases gs with
    | nil => simp at h
    | cons g gs =>
      have h1 : c.isEmpty = false := by
        have := hc c (by simp)
        cases c with
        | nil => exact absurd rfl this
        | cons _ _ => rfl
      rw [kept_cons, h1, ih (by simpa using h) (fun c hm => hc c (by simp [hm]))]
      rfl
theorem full_none {cs : List (List Txt)} (hc : ∀ c ∈ cs, c ≠ []) : full cs = cs := by
  unfold full
  rw [List.filter_eq_self]
  intro c hm
  have := hc c hm
  cases c with
  | nil => exact absurd rfl this
  | cons _ _ => rfl
theorem kept_sub (gs : List Nat) (cs : List (List Txt)) : (kept gs cs).Sublist gs := by
  induction gs generalizing cs with
  | nil => simp [kept]
  | cons g gs ih => cases cs with
    | nil => simp [kept]
    | cons c cs =>
      rw [kept_cons]
      split
      · exact (ih cs).cons _
      · exact (ih cs).cons_cons _
theorem kept_length {gs : List Nat} {cs : List (List Txt)} (h : gs.length = cs.length) : (kept gs cs).length = (full cs).length := by
  induction cs generalizing gs with
  | nil => cases gs with
    | nil => rfl
    | cons g gs => simp at h
  | cons c cs ih => cases gs with
    | nil => simp at h
    | cons g gs =>
      rw [kept_cons, full_cons]
      have := ih (gs := gs) (by simpa using h)
      split <;> simp [this]
theorem kept_le (gs : List Nat) (cs : List (List Txt)) : (kept gs cs).length ≤ gs.length := (kept_sub gs cs).length_le
theorem kept_pair {gs : List Nat} {cs : List (List Txt)} {i g : Nat} {c : List Txt} (h1 : (kept gs cs)[i]? = some g) (h2 : (full cs)[i]? = some c) (h : gs.length = cs.length) : ∃ j : Nat, gs[j]? = some g ∧ cs[j]? = some c := by
  induction cs generalizing gs i with
  | nil => simp [full] at h2
  | cons c0 cs ih => cases gs with
    | nil => simp at h
    | cons g0 gs =>
      rw [kept_cons] at h1
      rw [full_cons] at h2
      have h' : gs.length = cs.length := by simpa using h
      split at h1
      · rename_i hc
        rw [if_pos hc] at h2
        obtain ⟨j, a, b⟩ := ih h1 h2 h'
        exact ⟨j + 1, by simpa using a, by simpa using b⟩
      · rename_i hc
        rw [if_neg hc] at h2
        cases i with
        | zero => exact ⟨0, by simpa using h1, by simpa using h2⟩
        | succ i =>
          obtain ⟨j, a, b⟩ := ih (i := i) (by simpa using h1) (by simpa using h2) h'
          exact ⟨j + 1, by simpa using a, by simpa using b⟩
theorem total_full (cs : List (List Txt)) : total (full cs) = total cs := by
  induction cs with
  | nil => rfl
  | cons c cs ih =>
    rw [full_cons]
    unfold total at ih ⊢
    split
    · rename_i h
      have : c = [] := by simpa using h
      subst this
      simpa using ih
    · simp only [List.map_cons, List.sum_cons, ih]
theorem costOf_full (cs : List (List Txt)) : costOf (full cs) = costOf cs := by
  induction cs with
  | nil => rfl
  | cons c cs ih =>
    rw [full_cons]
    unfold costOf at ih ⊢
    split
    · rename_i h
      have : c = [] := by simpa using h
      subst this
      simpa using ih
    · simp only [List.map_cons, List.sum_cons, ih]
theorem full_mem {cs : List (List Txt)} {c : List Txt} (h : c ∈ full cs) : c ∈ cs ∧ c ≠ [] := by
  unfold full at h
  rw [List.mem_filter] at h
  refine ⟨h.1, ?_⟩
  rintro rfl
  simp at h
/-- What IndexFunc says. -/
def IdxPost (cs : List (List Txt)) (w : World) (e : Ending) (w' : World) : Prop :=
  w = w' ∧ ((e = .returned (.int .i64 (-1)) ∧ ∀ c ∈ cs, c ≠ []) ∨ ∃ k : Nat, e = .returned (.int .i64 k) ∧ cs[k]? = some [] ∧ ∀ c ∈ cs.take k, c ≠ [])
end Pantry
namespace Go.Proofs.Ytefoieloakfhfaa
open Go.RowKit Pantry

theorem empty_any (w : World) (g : Nat) (c : List Txt) (h : ChunkAt w g c) (hc : c.length ≤ 32) :
    Calls Try.prog 59 #[.pointer (some ⟨g, 0, none⟩)] w fun e w' => e = .returned (.bool c.isEmpty) ∧ w = w' := by
  have hn := h.n hc
  obtain ⟨n, hn2⟩ : ∃ n, c.length = n := ⟨_, rfl⟩
  have he : c.isEmpty = ((n : Int) == 0) := by
    rw [← hn2]
    cases c with
    | nil => rfl
    | cons a l => simp; omega
  rw [he]
  rw [hn2] at hn
  clear h he hn2 hc
  go_enter Try.func59, Try.ntmps59
  go_wp2_with fail
  go_ret
  exact ⟨rfl, rfl⟩

set_option maxHeartbeats 2000000 in
set_option maxRecDepth 100000 in
theorem index_any (w : World) (v : Value) (gs : List Nat) (cs : List (List Txt)) (hrow : w.ownsRow 0 67 1 v cs.length (gs.map ptr)) (hch : ∀ (i g : Nat) (c : List Txt), gs[i]? = some g → cs[i]? = some c → ChunkAt w g c) (hf : Fits cs) :
    Calls Try.prog 64 #[v, .func (.func 59) #[] #[]] w (IdxPost cs w) := by
  obtain ⟨a0, c0, hv, -⟩ := ownsRow_rd hrow (ptr_one gs)
  have hrl := hf.rows
  have HR := Lib.hid hrow
  have HCH := Lib.hid hch
  have HF := Lib.hid hf
  have HL := Lib.hid (show gs.length = cs.length by have := hrow.1; simpa using this)
  subst hv
  obtain ⟨m, hm⟩ : ∃ m, cs.length = m := ⟨_, rfl⟩
  rw [hm] at hrl
  have HM := Lib.hid hm
  rw [hm]
  clear hrow hch hf hm
  go_enter Try.func64, Try.ntmps64
  go_wp2_with fail
  go_loop [8] (fun i => ∃ k : Nat, k ≤ m ∧ i = .int .i64 k ∧ Hid (∀ c ∈ cs.take k, c ≠ [])) (fun i => m - (intOf i).toNat)
  case atStart => exact ⟨0, Nat.zero_le _, rfl, Lib.hid (by simp)⟩
  case round =>
    obtain ⟨k, hk, rfl, HO⟩ := hrel
    by_cases hlt : k < m
    · obtain ⟨c, hc⟩ : ∃ c, cs[k]? = some c := ⟨_, List.getElem?_eq_getElem (by rw [HM.out]; exact hlt)⟩
      obtain ⟨g, hg⟩ : ∃ g, gs[k]? = some g := ⟨_, List.getElem?_eq_getElem (by rw [HL.out, HM.out]; exact hlt)⟩
      have HE := Lib.hid (empty_any w g c (HCH.out k g c hg hc) (HF.out.chunk c (List.mem_of_getElem? hc)))
      obtain ⟨sb, hsb, hcell⟩ : ∃ sb, a0 = some ⟨sb, 0, none⟩ ∧ w.cell? ⟨sb, k, none⟩ = some (.pointer (some ⟨g, 0, none⟩)) := by
        have hr2 := HR.out
        have hm := HM.out
        rcases hr2.2 with ⟨_, h0⟩ | ⟨sb, cap, cur, hv, _, _, _, _, _, _⟩
        · omega
        · injection hv with e1 e2 e3
          subst e1
          refine ⟨sb, rfl, ?_⟩
          rw [hr2.cellAt k (by omega), List.getElem?_map, hg]
          rfl
      subst hsb
      have HC := Lib.hid hc
      obtain ⟨b, hb⟩ : ∃ b, c.isEmpty = b := ⟨_, rfl⟩
      rw [hb] at HE
      have HB := Lib.hid hb
      clear hc hg hb
      cases b
      · go_wp2_with (refine HE.out.mono ?_; rintro e w' ⟨rfl, rfl⟩)
        go_round
        case rel => exact ⟨k + 1, by omega, by go_num, Lib.hid (by
          intro x hx
          rw [List.take_add_one, HC.out] at hx
          rcases List.mem_append.1 hx with hx | hx
          · exact HO.out x hx
          · have : x = c := by simpa using hx
            subst this
            intro e0
            have := HB.out
            rw [e0] at this
            cases this)⟩
        case measure => simp [intOf]; omega
      · go_wp2_with (refine HE.out.mono ?_; rintro e w' ⟨rfl, rfl⟩)
        go_ret
        have hb := HB.out
        have hcn : c = [] := by simpa using hb
        exact ⟨rfl, .inr ⟨k, rfl, by rw [HC.out, hcn], HO.out⟩⟩
    · obtain rfl : k = m := by omega
      go_wp2_with fail
      go_ret
      refine ⟨rfl, .inl ⟨rfl, ?_⟩⟩
      have h := HO.out
      rw [List.take_of_length_le (by rw [HM.out]; exact Nat.le_refl _)] at h
      exact h
end Go.Proofs.Ytefoieloakfhfaa

/- slices.DeleteFunc, at a row of chunks. -/
namespace Pantry
open Go Go.RowKit
theorem first_empty {cs : List (List Txt)} (h : ¬ ∀ c ∈ cs, c ≠ []) : ∃ k : Nat, cs[k]? = some [] ∧ ∀ c ∈ cs.take k, c ≠ [] := by
  induction cs with
  | nil => exact absurd (by simp) h
  | cons c cs ih =>
    by_cases hc : c = []
    · subst hc; exact ⟨0, rfl, by simp⟩
    · obtain ⟨k, h1, h2⟩ := ih (fun hh => h (by
        intro x hx
        rcases List.mem_cons.1 hx with rfl | hx
        · exact hc
        · exact hh x hx))
      refine ⟨k + 1, by simpa using h1, ?_⟩
      intro x hx
      rw [List.take_succ_cons] at hx
      rcases List.mem_cons.1 hx with rfl | hx
      · exact hc
      · exact h2 x hx
theorem first_le {cs : List (List Txt)} {k l : Nat} (h1 : cs[k]? = some []) (h2 : ∀ c ∈ cs.take l, c ≠ []) : l ≤ k := by
  by_cases h : l ≤ k
  · exact h
  · exact absurd rfl (h2 [] (List.mem_of_getElem? (i := k) (by rw [List.getElem?_take, if_pos (by omega)]; exact h1)))
theorem kept_first {gs : List Nat} {cs : List (List Txt)} {k : Nat} (hl : gs.length = cs.length) (h1 : cs[k]? = some []) (h2 : ∀ c ∈ cs.take k, c ≠ []) : kept (gs.take (k + 1)) (cs.take (k + 1)) = gs.take k := by
  have hk := (List.getElem?_eq_some_iff.1 h1).1
  rw [kept_snoc (List.getElem?_eq_getElem (by omega)) h1]
  rw [kept_none (by simp; omega) h2]
  simp
end Pantry
namespace Go.Proofs.Ytefoieloakfhfaa
open Go.RowKit Pantry

/-- A row that has become another, in its own block. -/
def GonePost (v : Value) (ys : List Nat) (w : World) (e : Ending) (w' : World) : Prop :=
  ∃ v', e = .returned v' ∧ w'.ownsRow 0 67 1 v' ys.length (ys.map ptr) ∧ Chg (fun q => v.ownBlock = some q) w w' ∧ ∀ q, v'.ownBlock = some q → v.ownBlock = some q ∨ w.heap.size ≤ q
/-- What holds within the loop. -/
structure SwInv (sb cap m : Nat) (gs : List Nat) (cs : List (List Txt)) (w wr : World) (i j : Nat) (cur : List Value) : Prop where
  here : wr.heap[sb]? = some (.cells cur.toArray 67)
  size : cur.length = cap
  got : cur.take i = (kept (gs.take j) (cs.take j)).map ptr
  len : (kept (gs.take j) (cs.take j)).length = i
  rest : ∀ q, j ≤ q → q < m → cur[q]? = (gs[q]?).map ptr
  chg : Chg (fun q => q = sb) w wr

set_option maxHeartbeats 4000000 in
set_option maxRecDepth 100000 in
theorem delfunc_any (w : World) (v : Value) (gs : List Nat) (cs : List (List Txt)) (hrow : w.ownsRow 0 67 1 v cs.length (gs.map ptr)) (hch : ∀ (i g : Nat) (c : List Txt), gs[i]? = some g → cs[i]? = some c → ChunkAt w g c) (hf : Fits cs)
    (hnb : ∀ k, v.ownBlock = some k → k ∉ gs) : Calls Try.prog 58 #[v, .func (.func 59) #[] #[]] w (GonePost v (kept gs cs) w) := by
  have hi := index_any w v gs cs hrow hch hf
  have hl : gs.length = cs.length := by have := hrow.1; simpa using this
  by_cases hall : ∀ c ∈ cs, c ≠ []
  · have HI := Lib.hid (hi.mono (R' := fun e w' => e = .returned (.int .i64 (-1)) ∧ w = w') (by
      rintro e w' ⟨rfl, ⟨rfl, -⟩ | ⟨k, -, h1, -⟩⟩
      · exact ⟨rfl, rfl⟩
      · exact absurd rfl (hall [] (List.mem_of_getElem? h1))))
    have HEND := Lib.hid (show GonePost v (kept gs cs) w (.returned v) w from ⟨v, rfl, by rw [kept_none hl hall, hl]; exact hrow, Chg.refl _ _, fun q h => .inl h⟩)
    obtain ⟨a0, c0, hv, -⟩ := ownsRow_rd hrow (ptr_one gs)
    subst hv
    clear hi hall hrow hch hf hnb
    obtain ⟨m, hm⟩ : ∃ m, cs.length = m := ⟨_, rfl⟩
    rw [hm] at HI HEND ⊢
    clear hm hl
    go_enter Try.func58, Try.ntmps58
    go_wp2_with (refine HI.out.mono ?_; rintro e w' ⟨rfl, rfl⟩)
    go_ret
    exact HEND.out
  · obtain ⟨k, hk1, hk2⟩ := first_empty hall
    have hkl := (List.getElem?_eq_some_iff.1 hk1).1
    have HI := Lib.hid (hi.mono (R' := fun e w' => e = .returned (.int .i64 k) ∧ w = w') (by
      rintro e w' ⟨rfl, ⟨rfl, h⟩ | ⟨l, rfl, h1, h2⟩⟩
      · exact absurd h hall
      · have a := first_le hk1 h2
        have b := first_le h1 hk2
        obtain rfl : l = k := by omega
        exact ⟨rfl, rfl⟩))
    have hrl := hf.rows
    rcases hrow.2 with ⟨_, h0⟩ | ⟨sb, cap, cur, rfl, hbg, hg, hnc, hcm, hcs, htake⟩
    · omega
    · have HSB := Lib.hid (show sb ∉ gs from hnb sb rfl)
      have hcl : cur.toList.length = cap := by simpa using hcs
      obtain ⟨m, hm⟩ : ∃ m, cs.length = m := ⟨_, rfl⟩
      have HCH := Lib.hid hch
      have HF := Lib.hid hf
      have HL := Lib.hid hl
      have HM := Lib.hid hm
      have HS0 := Lib.hid (show SwInv sb cap m gs cs w w k (k + 1) cur.toList from by
        refine ⟨by simpa using hg, hcl, ?_, ?_, ?_, Chg.refl _ _⟩
        · rw [kept_first hl hk1 hk2, List.map_take, ← htake, List.take_take]
          congr 1; omega
        · rw [kept_first hl hk1 hk2]; simp; omega
        · intro q h1 h2
          have h3 : (cur.toList.take (cs.length * 1))[q]? = (gs.map ptr)[q]? := by rw [htake]
          rw [List.getElem?_take, if_pos (by omega), List.getElem?_map] at h3
          exact h3)
      rw [hm] at HI hkl hnc hrl ⊢
      have hke : ((k : Int) == -1) = false := by rw [beq_eq_false_iff_ne]; omega
      clear hi hall hrow hch hf hnb hk1 hk2 hg hcs htake hcl hl hm
      unfold maxLen at hcm
      go_enter Try.func58, Try.ntmps58
      go_wp2_with (refine HI.out.mono ?_; rintro e w' ⟨rfl, rfl⟩)
      go_loopw [5, 6] (fun a b wr => ∃ i j : Nat, i < j ∧ j ≤ m ∧ a = .int .i64 i ∧ b = .int .i64 j ∧ ∃ cur, Hid (SwInv sb cap m gs cs w wr i j cur)) (fun _ b _ => m - (intOf b).toNat)
      case atStart => exact ⟨k, k + 1, by omega, by omega, rfl, by go_num, _, HS0⟩
      case round =>
        obtain ⟨i, j, hij, hjm, rfl, rfl, cur2, HV⟩ := hrel
        have hcl := HV.out.size
        by_cases hlt : j < m
        · obtain ⟨c, hc⟩ : ∃ c, cs[j]? = some c := ⟨_, List.getElem?_eq_getElem (by rw [HM.out]; exact hlt)⟩
          obtain ⟨g, hg⟩ : ∃ g, gs[j]? = some g := ⟨_, List.getElem?_eq_getElem (by rw [HL.out, HM.out]; exact hlt)⟩
          have hchw : ChunkAt wr g c := HV.out.chg.heap (HCH.out j g c hg hc) (fun e => HSB.out (by rw [← e]; exact List.mem_of_getElem? hg))
          have HE := Lib.hid (empty_any wr g c hchw (HF.out.chunk c (List.mem_of_getElem? hc)))
          have hcell : wr.cell? ⟨sb, j, none⟩ = some (.pointer (some ⟨g, 0, none⟩)) := by
            rw [cell_of_row wr sb _ _ _ _ HV.out.here, ← Array.getElem?_toList]
            show cur2[j]? = _
            rw [HV.out.rest j (Nat.le_refl _) hlt, hg]
            rfl
          obtain ⟨u, hu⟩ : ∃ u, wr.cell? ⟨sb, i, none⟩ = some u := by
            rw [cell_of_row wr sb _ _ _ _ HV.out.here, ← Array.getElem?_toList]
            exact ⟨_, List.getElem?_eq_getElem (by show i < cur2.length; omega)⟩
          have hfr : wr.frozen? ⟨sb, i, none⟩ = false := frozen_of_row wr sb i _ _ HV.out.here
          have HSN := Lib.hid (kept_snoc hg hc)
          obtain ⟨b, hb⟩ : ∃ b, c.isEmpty = b := ⟨_, rfl⟩
          rw [hb] at HE HSN
          cases b
          · have HN := Lib.hid (show SwInv sb cap m gs cs w (wr.setCell ⟨sb, i, none⟩ (.pointer (some ⟨g, 0, none⟩))) (i + 1) (j + 1) (cur2.set i (.pointer (some ⟨g, 0, none⟩))) from by
              have hU := (Upd.same HV.out.here).setCell i (.pointer (some ⟨g, 0, none⟩))
              have hSN : kept (gs.take (j + 1)) (cs.take (j + 1)) = kept (gs.take j) (cs.take j) ++ [g] := HSN.out
              refine ⟨by simpa using hU.here, by rw [List.length_set]; exact hcl, ?_, ?_, ?_, HV.out.chg.setCell (fun _ => rfl) _⟩
              · rw [hSN, List.take_add_one, List.getElem?_set_self (by omega), List.take_set_of_le (Nat.le_refl _), HV.out.got]
                simp [ptr]
              · rw [hSN, List.length_append, HV.out.len]; rfl
              · intro q h1 h2
                rw [List.getElem?_set_ne (by omega)]
                exact HV.out.rest q (by omega) h2)
            clear hc hg hchw hb
            go_wp2_with (refine HE.out.mono ?_; rintro e w' ⟨rfl, rfl⟩)
            go_roundw
            case rel => exact ⟨i + 1, j + 1, by omega, by omega, by go_num, by go_num, _, HN⟩
            case measure => simp [intOf]; omega
          · have HN := Lib.hid (show SwInv sb cap m gs cs w wr i (j + 1) cur2 from by
              have hSN : kept (gs.take (j + 1)) (cs.take (j + 1)) = kept (gs.take j) (cs.take j) ++ [] := HSN.out
              rw [List.append_nil] at hSN
              exact ⟨HV.out.here, hcl, by rw [hSN]; exact HV.out.got, by rw [hSN]; exact HV.out.len, fun q h1 h2 => HV.out.rest q (by omega) h2, HV.out.chg⟩)
            clear hc hg hchw hb
            go_wp2_with (refine HE.out.mono ?_; rintro e w' ⟨rfl, rfl⟩)
            go_roundw
            case rel => exact ⟨i, j + 1, by omega, by omega, rfl, by go_num, _, HN⟩
            case measure => simp [intOf]; omega
        · obtain rfl : j = m := by omega
          have hclr : ∀ ty c, (Builtin.clear_ #[60] ty #[.slice (some ⟨sb, i, none⟩) (j - i) c]).run Try.prog wr = .ok (.tuple #[]) (wr.setRow sb (splice cur2 i (List.replicate (j - i) (.pointer none))).toArray) := fun ty c =>
            run_clear_gen wr 60 ty 67 sb i (j - i) c _ 67 (.pointer none) Try.underlying60 (elZero wr) rfl rfl HV.out.here (by omega)
          have HEND := Lib.hid (show GonePost (.slice (some ⟨sb, 0, none⟩) j cap) (kept gs cs) w (.returned (.slice (some ⟨sb, 0, none⟩) i cap)) (wr.setRow sb (splice cur2 i (List.replicate (j - i) (.pointer none))).toArray) from by
            have hm := HM.out
            have hl := HL.out
            have hgot := HV.out.got
            have hlen := HV.out.len
            have e1 : gs.take j = gs := List.take_of_length_le (by omega)
            have e2 : cs.take j = cs := List.take_of_length_le (by omega)
            rw [e1, e2] at hgot hlen
            have hsl : (splice cur2 i (List.replicate (j - i) (Value.pointer none))).length = cap := by rw [length_splice _ _ _ (by rw [List.length_replicate]; omega), hcl]
            refine ⟨_, rfl, ⟨by simp, .inr ⟨sb, cap, _, by rw [hlen], Nat.zero_le _, setRow_heap wr sb _ _ _ _ HV.out.here, by omega, by unfold maxLen; omega, ?_, ?_⟩⟩, ?_, fun q hq => .inl hq⟩
            · rw [List.size_toArray, hsl, Nat.mul_one]
            · rw [← hgot, hlen]
              show (splice cur2 i _).take (i * 1) = _
              unfold splice
              rw [Nat.mul_one, List.take_append_of_le_length (by rw [List.length_take]; omega), List.take_take, Nat.min_self]
            · exact (HV.out.chg.setRow (fun _ => rfl) _).mono (fun q _ e => by subst e; rfl))
          have hb4 : ¬ (cap = i) := by omega
          clear hcl
          go_wp2_with (refine wpl_clear_run _ rfl _ 60 rfl _ rfl (hclr _ _) ?_)
          go_ret
          exact HEND.out
end Go.Proofs.Ytefoieloakfhfaa

/- sweep. -/
namespace Go.Proofs.Ytefoieloakfhfaa
open Go.RowKit Pantry

/-- The empty chunks have gone from the row, the head is not told of it yet. -/
theorem DeqAt.swept {w w3 w4 : World} {d : Nat} {v v' : Value} {gs : List Nat} {cs : List (List Txt)} (h : DeqAt w d v gs cs)
    (hc : Chg (fun j => v.ownBlock = some j) w w3) (hrow : w3.ownsRow 0 67 1 v' (kept gs cs).length ((kept gs cs).map ptr)) (hv : ∀ j, v'.ownBlock = some j → v.ownBlock = some j ∨ w.heap.size ≤ j)
    (hu : Upd d (.cells #[v', .int .i64 (total cs : Nat), .int .i64 (costOf cs : Nat)] 62) w3 w4) : DeqAt w4 d v' (kept gs cs) (full cs) := by
  have hl := h.len
  have hmem : ∀ {x}, x ∈ kept gs cs → x ∈ gs := fun hx => (kept_sub gs cs).subset hx
  refine ⟨by rw [total_full, costOf_full]; exact hu.here, ?_, ?_, h.nodup.sublist (kept_sub gs cs), fun hm => h.notd (hmem hm), ?_, ?_⟩
  · rw [← kept_length hl]
    refine Chg.ownsRow hrow hu.chg fun j hj e => ?_
    subst e
    rcases hv _ hj with h1 | h1
    · exact h.rowd h1
    · have := h.lt j (.inl rfl); omega
  · intro i gi ci hi hci
    obtain ⟨j, h1, h2⟩ := kept_pair hi hci hl
    have hm := List.mem_of_getElem? h1
    have hne : gi ≠ d := fun e => h.notd (by rw [← e]; exact hm)
    unfold ChunkAt
    rw [hu.other gi hne]
    exact hc.heap (h.chunk j gi ci h1 h2) fun e => h.rowg _ e hm
  · intro e
    rcases hv d e with h1 | h1
    · exact h.rowd h1
    · have := h.lt d (.inl rfl); omega
  · intro j hj hm
    rcases hv j hj with h1 | h1
    · exact h.rowg j h1 (hmem hm)
    · have := h.lt j (.inr (.inl (hmem hm))); omega

set_option maxHeartbeats 2000000 in
set_option maxRecDepth 100000 in
theorem sweep_any (w : World) (d : Nat) (v : Value) (gs : List Nat) (cs : List (List Txt)) (h : DeqAt w d v gs cs) (hf : Fits cs) :
    Calls Try.prog 40 #[.pointer (some ⟨d, 0, none⟩)] w (DeqPost d v gs (full cs) (.tuple #[]) w) := by
  have HDEL := Lib.hid (delfunc_any w v gs cs h.row h.chunk hf h.rowg)
  obtain ⟨⟨d0, -, -⟩, -⟩ := three h.head
  obtain ⟨a0, c0, hv, -⟩ := ownsRow_rd h.row (ptr_one gs)
  have HNEXT := Lib.hid (fun (v' : Value) (w2 : World) (r1 : w2.ownsRow 0 67 1 v' (kept gs cs).length ((kept gs cs).map ptr)) (hcg : Chg (fun q => v.ownBlock = some q) w w2) (r3 : ∀ q, v'.ownBlock = some q → v.ownBlock = some q ∨ w.heap.size ≤ q) =>
    show (∃ x y, w2.heap[d]? = some (.cells #[v, x, y] 62)) ∧ DeqPost d v gs (full cs) (.tuple #[]) w (.returned (.tuple #[])) (w2.setCell ⟨d, 0, none⟩ v') from by
    have hd2 := hcg.heap h.head (fun e => h.rowd e)
    have hU := (Upd.same hd2).setCell 0 v'
    have hrm := h.swept hcg r1 r3 hU
    refine ⟨⟨_, _, hd2⟩, v', kept gs cs, rfl, hrm, (hcg.mono fun q _ e => .inr (.inr e)).trans hU.chg (fun q _ e => .inl e), fun q hq => ?_⟩
    rcases hq with rfl | hq | hq
    · exact .inl (.inl rfl)
    · exact .inl (.inr (.inl ((kept_sub gs cs).subset hq)))
    · rcases r3 q hq with e | e
      · exact .inl (.inr (.inr e))
      · exact .inr e)
  obtain ⟨m, hm⟩ : ∃ m, cs.length = m := ⟨_, rfl⟩
  rw [hm] at hv
  clear h hf hm
  subst hv
  go_enter Try.func40, Try.ntmps40
  go_wp2_with fail
  refine HDEL.out.mono ?_
  rintro e w2 ⟨v', rfl, r1, r2, r3⟩
  obtain ⟨⟨x, y, hd2⟩, HP⟩ := HNEXT.out v' w2 r1 r2 r3
  have HPP := Lib.hid HP
  obtain ⟨a', c', rfl, -⟩ := ownsRow_rd r1 (ptr_one _)
  obtain ⟨⟨e0, -, -⟩, ef⟩ := three hd2
  have ef0 := ef 0
  clear hd2 HP r1 r2 r3 ef
  go_wp2_with fail
  go_end0
  exact HPP.out
end Go.Proofs.Ytefoieloakfhfaa
