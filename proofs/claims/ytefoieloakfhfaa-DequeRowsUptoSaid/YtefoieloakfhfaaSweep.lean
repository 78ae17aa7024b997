/- Empty chunks go: slices.IndexFunc, slices.DeleteFunc, sweep. -/
import Derived.Test.YtefoieloakfhfaaChunks
namespace Pantry
open Go Go.RowKit
/-- The pointers of the chunks that hold something. -/
def kept (gs : List Nat) (cs : List (List Txt)) : List Nat := ((gs.zip cs).filter fun p => !p.2.isEmpty).map (·.1)
def full (cs : List (List Txt)) : List (List Txt) := cs.filter fun c => !c.isEmpty
theorem kept_cons (g : Nat) (gs : List Nat) (c : List Txt) (cs : List (List Txt)) : kept (g :: gs) (c :: cs) = if c.isEmpty then kept gs cs else g :: kept gs cs := by
  unfold kept
  rw [List.zip_cons_cons, List.filter_cons]
  cases c.isEmpty <;> simp
theorem full_cons (c : List Txt) (cs : List (List Txt)) : full (c :: cs) = if c.isEmpty then full cs else c :: full cs := by
  unfold full
  rw [List.filter_cons]
  cases c.isEmpty <;> simp
theorem kept_snoc {gs : List Nat} {cs : List (List Txt)} {j g : Nat} {c : List Txt} (hg : gs[j]? = some g) (hc : cs[j]? = some c) :
    kept (gs.take (j + 1)) (cs.take (j + 1)) = kept (gs.take j) (cs.take j) ++ (if c.isEmpty then [] else [g]) := by
  have h1 := (List.getElem?_eq_some_iff.1 hg).1
  have h2 := (List.getElem?_eq_some_iff.1 hc).1
  rw [List.take_add_one, List.take_add_one, hg, hc]
  unfold kept
  rw [List.zip_append (by simp; omega)]
  cases h : c.isEmpty <;> simp [h]
theorem kept_none {gs : List Nat} {cs : List (List Txt)} (h : gs.length = cs.length) (hc : ∀ c ∈ cs, c ≠ []) : kept gs cs = gs := by
  induction cs generalizing gs with
  | nil => cases gs with
    | nil => rfl
    | cons g gs => simp at h
  | cons c cs ih => cases gs with
    | nil => simp at h
    | cons g gs =>
      have h1 : c.isEmpty = false := by
        have := hc c (by simp)
        cases c with
        | nil => exact absurd rfl this
        | cons _ _ => rfl
      rw [kept_cons, h1, ih (by simpa using h) (fun c hm => hc c (by simp [hm]))]
      rfl
theorem full_none {cs : List (List Txt)} (hc : ∀ c ∈ cs, c ≠ []) : full cs = cs := by
  unfold full
  rw [List.filter_eq_self]
  intro c hm
  have := hc c hm
  cases c with
  | nil => exact absurd rfl this
  | cons _ _ => rfl
theorem kept_sub (gs : List Nat) (cs : List (List Txt)) : (kept gs cs).Sublist gs := by
  induction gs generalizing cs with
  | nil => simp [kept]
  | cons g gs ih => cases cs with
    | nil => simp [kept]
    | cons c cs =>
      rw [kept_cons]
      split
      · exact (ih cs).cons _
      · exact (ih cs).cons_cons _
theorem kept_length {gs : List Nat} {cs : List (List Txt)} (h : gs.length = cs.length) : (kept gs cs).length = (full cs).length := by
  induction cs generalizing gs with
  | nil => cases gs with
    | nil => rfl
    | cons g gs => simp at h
  | cons c cs ih => cases gs with
    | nil => simp at h
    | cons g gs =>
      rw [kept_cons, full_cons]
      have := ih (gs := gs) (by simpa using h)
      split <;> simp [this]
theorem kept_le (gs : List Nat) (cs : List (List Txt)) : (kept gs cs).length ≤ gs.length := (kept_sub gs cs).length_le
theorem kept_pair {gs : List Nat} {cs : List (List Txt)} {i g : Nat} {c : List Txt} (h1 : (kept gs cs)[i]? = some g) (h2 : (full cs)[i]? = some c) (h : gs.length = cs.length) : ∃ j : Nat, gs[j]? = some g ∧ cs[j]? = some c := by
  induction cs generalizing gs i with
  | nil => simp [full] at h2
  | cons c0 cs ih => cases gs with
    | nil => simp at h
    | cons g0 gs =>
      rw [kept_cons] at h1
      rw [full_cons] at h2
      have h' : gs.length = cs.length := by simpa using h
      split at h1
      · rename_i hc
        rw [if_pos hc] at h2
        obtain ⟨j, a, b⟩ := ih h1 h2 h'
        exact ⟨j + 1, by simpa using a, by simpa using b⟩
      · rename_i hc
        rw [if_neg hc] at h2
        cases i with
        | zero => exact ⟨0, by simpa using h1, by simpa using h2⟩
        | succ i =>
          obtain ⟨j, a, b⟩ := ih (i := i) (by simpa using h1) (by simpa using h2) h'
          exact ⟨j + 1, by simpa using a, by simpa using b⟩
theorem total_full (cs : List (List Txt)) : total (full cs) = total cs := by
  induction cs with
  | nil => rfl
  | cons c cs ih =>
    rw [full_cons]
    unfold total at ih ⊢
    split
    · rename_i h
      have : c = [] := by simpa using h
      subst this
      simpa using ih
    · simp only [List.map_cons, List.sum_cons, ih]
theorem costOf_full (cs : List (List Txt)) : costOf (full cs) = costOf cs := by
  induction cs with
  | nil => rfl
  | cons c cs ih =>
    rw [full_cons]
    unfold costOf at ih ⊢
    split
    · rename_i h
      have : c = [] := by simpa using h
      subst this
      simpa using ih
    · simp only [List.map_cons, List.sum_cons, ih]
theorem full_mem {cs : List (List Txt)} {c : List Txt} (h : c ∈ full cs) : c ∈ cs ∧ c ≠ [] := by
  unfold full at h
  rw [List.mem_filter] at h
  refine ⟨h.1, ?_⟩
  rintro rfl
  simp at h
/-- What IndexFunc says. -/
def IdxPost (cs : List (List Txt)) (w : World) (e : Ending) (w' : World) : Prop :=
  w = w' ∧ ((e = .returned (.int .i64 (-1)) ∧ ∀ c ∈ cs, c ≠ []) ∨ ∃ k : Nat, e = .returned (.int .i64 k) ∧ cs[k]? = some [] ∧ ∀ c ∈ cs.take k, c ≠ [])
end Pantry
namespace Go.Proofs.Ytefoieloakfhfaa
open Go.RowKit Pantry

theorem empty_any (w : World) (g : Nat) (c : List Txt) (h : ChunkAt w g c) (hc : c.length ≤ 32) :
    Calls Try.prog 59 #[.pointer (some ⟨g, 0, none⟩)] w fun e w' => e = .returned (.bool c.isEmpty) ∧ w = w' := by
  have hn := h.n hc
  obtain ⟨n, hn2⟩ : ∃ n, c.length = n := ⟨_, rfl⟩
  have he : c.isEmpty = ((n : Int) == 0) := by
    rw [← hn2]
    cases c with
    | nil => rfl
    | cons a l => simp; omega
  rw [he]
  rw [hn2] at hn
  clear h he hn2 hc
  go_enter Try.func59, Try.ntmps59
  go_wp2_with fail
  go_ret
  exact ⟨rfl, rfl⟩

set_option maxHeartbeats 2000000 in
set_option maxRecDepth 100000 in
theorem index_any (w : World) (v : Value) (gs : List Nat) (cs : List (List Txt)) (hrow : w.ownsRow 0 67 1 v cs.length (gs.map ptr)) (hch : ∀ (i g : Nat) (c : List Txt), gs[i]? = some g → cs[i]? = some c → ChunkAt w g c) (hf : Fits cs) :
    Calls Try.prog 64 #[v, .func (.func 59) #[] #[]] w (IdxPost cs w) := by
  obtain ⟨a0, c0, hv, -⟩ := ownsRow_rd hrow (ptr_one gs)
  have hrl := hf.rows
  have HR := Lib.hid hrow
  have HCH := Lib.hid hch
  have HF := Lib.hid hf
  have HL := Lib.hid (show gs.length = cs.length by have := hrow.1; simpa using this)
  subst hv
  obtain ⟨m, hm⟩ : ∃ m, cs.length = m := ⟨_, rfl⟩
  rw [hm] at hrl
  have HM := Lib.hid hm
  rw [hm]
  clear hrow hch hf hm
  go_enter Try.func64, Try.ntmps64
  go_wp2_with fail
  go_loop [8] (fun i => ∃ k : Nat, k ≤ m ∧ i = .int .i64 k ∧ Hid (∀ c ∈ cs.take k, c ≠ [])) (fun i => m - (intOf i).toNat)
  case atStart => exact ⟨0, Nat.zero_le _, rfl, Lib.hid (by simp)⟩
  case round =>
    obtain ⟨k, hk, rfl, HO⟩ := hrel
    by_cases hlt : k < m
    · obtain ⟨c, hc⟩ : ∃ c, cs[k]? = some c := ⟨_, List.getElem?_eq_getElem (by rw [HM.out]; exact hlt)⟩
      obtain ⟨g, hg⟩ : ∃ g, gs[k]? = some g := ⟨_, List.getElem?_eq_getElem (by rw [HL.out, HM.out]; exact hlt)⟩
      have HE := Lib.hid (empty_any w g c (HCH.out k g c hg hc) (HF.out.chunk c (List.mem_of_getElem? hc)))
      obtain ⟨sb, hsb, hcell⟩ : ∃ sb, a0 = some ⟨sb, 0, none⟩ ∧ w.cell? ⟨sb, k, none⟩ = some (.pointer (some ⟨g, 0, none⟩)) := by
        have hr2 := HR.out
        have hm := HM.out
        rcases hr2.2 with ⟨_, h0⟩ | ⟨sb, cap, cur, hv, _, _, _, _, _, _⟩
        · omega
        · injection hv with e1 e2 e3
          subst e1
          refine ⟨sb, rfl, ?_⟩
          rw [hr2.cellAt k (by omega), List.getElem?_map, hg]
          rfl
      subst hsb
      have HC := Lib.hid hc
      obtain ⟨b, hb⟩ : ∃ b, c.isEmpty = b := ⟨_, rfl⟩
      rw [hb] at HE
      have HB := Lib.hid hb
      clear hc hg hb
      cases b
      · go_wp2_with (refine HE.out.mono ?_; rintro e w' ⟨rfl, rfl⟩)
        go_round
        case rel => exact ⟨k + 1, by omega, by go_num, Lib.hid (by
          intro x hx
          rw [List.take_add_one, HC.out] at hx
          rcases List.mem_append.1 hx with hx | hx
          · exact HO.out x hx
          · have : x = c := by simpa using hx
            subst this
            intro e0
            have := HB.out
            rw [e0] at this
            cases this)⟩
        case measure => simp [intOf]; omega
      · go_wp2_with (refine HE.out.mono ?_; rintro e w' ⟨rfl, rfl⟩)
        go_ret
        have hb := HB.out
        have hcn : c = [] := by simpa using hb
        exact ⟨rfl, .inr ⟨k, rfl, by rw [HC.out, hcn], HO.out⟩⟩
    · obtain rfl : k = m := by omega
      go_wp2_with fail
      go_ret
      refine ⟨rfl, .inl ⟨rfl, ?_⟩⟩
      have h := HO.out
      rw [List.take_of_length_le (by rw [HM.out]; exact Nat.le_refl _)] at h
      exact h
end Go.Proofs.Ytefoieloakfhfaa
