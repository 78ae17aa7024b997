/- Where a key's entry hangs, in both tables; Get. -/
import Derived.Test.YtbjfigegiffefaaDStep4
set_option linter.unusedVariables false
set_option linter.unusedSimpArgs false
namespace Pantry
open Go Go.RowKit
/-- The cell behind some entries of a chain. -/
def lastA (p : Addr) : List DE → Addr
  | [] => p
  | x :: pre => lastA ⟨x.b, 2, none⟩ pre
theorem lastA_snoc (p : Addr) (pre : List DE) (x : DE) : lastA p (pre ++ [x]) = ⟨x.b, 2, none⟩ := by
  induction pre generalizing p with
  | nil => rfl
  | cons y pre ih => exact ih _
theorem linkC_some {p a : Addr} {c : List DE} {k : List UInt8} (h : linkC p c k = some a) : ∃ pre e post, c = pre ++ e :: post ∧ e.key = k ∧ a = lastA p pre := by
  induction c generalizing p with
  | nil => cases h
  | cons x c ih =>
    rw [linkC] at h
    split at h
    · rename_i hk
      cases h
      exact ⟨[], x, c, rfl, hk, rfl⟩
    · obtain ⟨pre, e, post, h1, h2, h3⟩ := ih h
      exact ⟨x :: pre, e, post, by rw [h1]; rfl, h2, h3⟩
theorem linkC_none {p : Addr} {c : List DE} {k : List UInt8} (h : linkC p c k = none) : ∀ e ∈ c, e.key ≠ k := by
  induction c generalizing p with
  | nil => intro e he; cases he
  | cons x c ih =>
    rw [linkC] at h
    split at h
    · cases h
    · rename_i hk
      intro e he
      rcases List.mem_cons.1 he with rfl | he
      · exact hk
      · exact ih h e he
/-- A key's entry is found in this table. -/
structure FoundIn (seed b : Nat) (T : List (List DE)) (k : List UInt8) (a : Addr) (c pre : List DE) (e : DE) (post : List DE) : Prop where
  bucket : T[dslotN seed k T.length]? = some c
  parts : c = pre ++ e :: post
  key : e.key = k
  addr : a = lastA ⟨b, dslotN seed k T.length, none⟩ pre
theorem linkT_some {seed b : Nat} {T : List (List DE)} {k : List UInt8} {a : Addr} (h : linkT seed b T k = some a) : ∃ c pre e post, FoundIn seed b T k a c pre e post := by
  unfold linkT at h
  split at h
  · rename_i c hc
    obtain ⟨pre, e, post, h1, h2, h3⟩ := linkC_some h
    exact ⟨c, pre, e, post, hc, h1, h2, h3⟩
  · cases h
theorem linkT_none {seed b : Nat} {T : List (List DE)} {k : List UInt8} (h : linkT seed b T k = none) (hp : Placed seed T) : ∀ e ∈ T.flatten, e.key ≠ k := by
  intro e he hk
  obtain ⟨c, hc, hx⟩ := List.mem_flatten.1 he
  obtain ⟨i, hi, rfl⟩ := List.mem_iff_getElem.1 hc
  have hg : T[i]? = some T[i] := List.getElem?_eq_getElem hi
  have hs := hp i _ e hg hx
  rw [hk] at hs
  unfold linkT at h
  rw [hs, hg] at h
  exact linkC_none h e hx hk
theorem FoundIn.mem {seed b : Nat} {T : List (List DE)} {k : List UInt8} {a : Addr} {c pre post : List DE} {e : DE} (h : FoundIn seed b T k a c pre e post) : e ∈ T.flatten :=
  List.mem_flatten.2 ⟨c, List.mem_of_getElem? h.bucket, by rw [h.parts]; simp⟩
end Pantry
namespace Go.Proofs.Ytbjfigegiffefaa
open Go.RowKit Pantry

theorem ChainAt.cellAt {w : World} {p : Addr} {pre : List DE} {e : DE} {post : List DE} (h : ChainAt w (pre ++ e :: post)) (hp : w.cell? p = some (ptrOf (pre ++ e :: post))) : w.cell? (lastA p pre) = some (.pointer (some ⟨e.b, 0, none⟩)) := by
  induction pre generalizing p with
  | nil => exact hp
  | cons x pre ih =>
    obtain ⟨⟨-, -, c2⟩, -⟩ := three h.1
    exact ih h.2 c2
theorem found_cell {w : World} {seed b : Nat} {T : List (List DE)} {k : List UInt8} {a : Addr} {c pre post : List DE} {e : DE} (h : FoundIn seed b T k a c pre e post) (hT : TabAt w b T) (hc : ∀ c ∈ T, ChainAt w c) : w.cell? a = some (.pointer (some ⟨e.b, 0, none⟩)) := by
  have h1 := hT.cell h.bucket
  have h2 := hc c (List.mem_of_getElem? h.bucket)
  rw [h.addr]
  rw [h.parts] at h1 h2
  exact h2.cellAt h1
theorem link_or (w : World) (d b seed : Nat) (T : List (List DE)) (key : List UInt8) (hd : w.cell? ⟨d, 0, none⟩ = some (.int .u64 seed)) (hseed : seed < 18446744073709551616) (hT : TabAt w b T) (hc : ∀ c ∈ T, ChainAt w c) (hs : key.length ≤ 140737488351232) :
    Calls Try.prog 69 #[.pointer (some ⟨d, 0, none⟩), tabV b T, .string ⟨key.toArray⟩] w fun e w' => e = .returned (.pointer (linkT seed b T key)) ∧ w = w' := by
  by_cases hne : T = []
  · subst hne
    exact link_nil w _ key
  · exact link_some w d b seed T key hd hseed hT hne hc hs
theorem find_any (w : World) (d : Nat) (D : Dc) (key : List UInt8) (h : DictAt w d D) (hw : D.Wf) (hs : key.length ≤ 140737488351232) :
    Calls Try.prog 59 #[.pointer (some ⟨d, 0, none⟩), .string ⟨key.toArray⟩] w fun e w' => e = .returned (.pointer (findT D.seed D.bo D.T D.bn D.Y key)) ∧ w = w' := by
  obtain ⟨⟨d0, d1, d2, d3, d4⟩, df⟩ := five h.head
  have H1 := Lib.hid (link_or w d D.bo D.seed D.T key d0 hw.seed h.old h.chT hs)
  have H2 := Lib.hid (link_or w d D.bn D.seed D.Y key d0 hw.seed h.young h.chY hs)
  unfold findT
  obtain ⟨v1, hv1⟩ : ∃ v, tabV D.bo D.T = v := ⟨_, rfl⟩
  obtain ⟨v2, hv2⟩ : ∃ v, tabV D.bn D.Y = v := ⟨_, rfl⟩
  rw [hv1] at d1 H1
  rw [hv2] at d2 H2
  obtain ⟨r1, hr1⟩ : ∃ v, linkT D.seed D.bo D.T key = v := ⟨_, rfl⟩
  obtain ⟨r2, hr2⟩ : ∃ v, linkT D.seed D.bn D.Y key = v := ⟨_, rfl⟩
  rw [hr1] at H1 ⊢
  rw [hr2] at H2 ⊢
  clear h hw d0 d3 d4 df hv1 hv2 hr1 hr2
  cases r1 with
  | some a =>
    go_enter Try.func59, Try.ntmps59
    go_wp2_with (go_at_call 69; refine H1.out.mono ?_; rintro e w1 ⟨rfl, rfl⟩)
    go_ret
    exact ⟨rfl, rfl⟩
  | none =>
    go_enter Try.func59, Try.ntmps59
    go_wp2_with (go_at_call 69; first
      | (refine H1.out.mono ?_; clear H1; rintro e w1 ⟨rfl, rfl⟩)
      | (refine H2.out.mono ?_; rintro e w1 ⟨rfl, rfl⟩))
    go_ret
    exact ⟨rfl, rfl⟩
/-- What find finds. -/
theorem find_found {w : World} {d : Nat} {D : Dc} {key : List UInt8} (h : DictAt w d D) {a : Addr} (hf : findT D.seed D.bo D.T D.bn D.Y key = some a) :
    ∃ e ∈ D.ents, e.key = key ∧ w.cell? a = some (.pointer (some ⟨e.b, 0, none⟩)) ∧ ((∃ c pre post, FoundIn D.seed D.bo D.T key a c pre e post) ∨ ∃ c pre post, FoundIn D.seed D.bn D.Y key a c pre e post) := by
  unfold findT at hf
  split at hf
  · rename_i p hp
    cases hf
    obtain ⟨c, pre, e, post, hh⟩ := linkT_some hp
    exact ⟨e, List.mem_append.2 (.inl hh.mem), hh.key, found_cell hh h.old h.chT, .inl ⟨c, pre, post, hh⟩⟩
  · obtain ⟨c, pre, e, post, hh⟩ := linkT_some hf
    exact ⟨e, List.mem_append.2 (.inr hh.mem), hh.key, found_cell hh h.young h.chY, .inr ⟨c, pre, post, hh⟩⟩
theorem find_missed {D : Dc} {key : List UInt8} (hw : D.Wf) (hf : findT D.seed D.bo D.T D.bn D.Y key = none) : ∀ e ∈ D.ents, e.key ≠ key := by
  unfold findT at hf
  split at hf
  · cases hf
  · rename_i hn
    intro e he
    rcases List.mem_append.1 he with he | he
    · exact linkT_none hn hw.placeT e he
    · exact linkT_none hf hw.placeY e he
/-- What Get tells. -/
def GetPost (d : Nat) (D0 : Dc) (key : List UInt8) (w : World) (r : Ending) (w' : World) : Prop :=
  ((∃ e ∈ D0.ents, e.key = key ∧ r = .returned (.tuple #[e.val, .bool true])) ∨ ((∀ e ∈ D0.ents, e.key ≠ key) ∧ r = .returned (.tuple #[.float .f64 0, .bool false]))) ∧ ∃ D, D.Wf ∧ SI w d D0 w' D
set_option maxHeartbeats 2000000 in
theorem get_any (w : World) (d : Nat) (D0 : Dc) (key : List UInt8) (h : DictAt w d D0) (hw : D0.Wf) (hs : key.length ≤ 140737488351232) :
    Calls Try.prog 35 #[.pointer (some ⟨d, 0, none⟩), .string ⟨key.toArray⟩] w (GetPost d D0 key w) := by
  have HS := Lib.hid (step_any w d D0 h hw)
  clear h hw
  go_enter Try.func35, Try.ntmps35
  go_wp2_with (go_at_call 58; refine HS.out.mono ?_; rintro r w1 ⟨rfl, D, hD, hI⟩
               have HD := Lib.hid hD
               have HI := Lib.hid hI
               clear hD hI HS)
  have HF := Lib.hid (find_any w1 d D key HI.out.at_ HD.out hs)
  obtain ⟨f, hf⟩ : ∃ v, findT D.seed D.bo D.T D.bn D.Y key = v := ⟨_, rfl⟩
  rw [hf] at HF
  cases f with
  | none =>
    have HP := Lib.hid (show GetPost d D0 key w (.returned (.tuple #[.float .f64 0, .bool false])) w1 from ⟨.inr ⟨fun e he => find_missed HD.out hf e (HI.out.perm.mem_iff.2 he), rfl⟩, D, HD.out, HI.out⟩)
    clear hf
    go_wp2_with (go_at_call 59; refine HF.out.mono ?_; rintro r w2 ⟨rfl, rfl⟩)
    go_ret2
    exact HP.out
  | some a =>
    obtain ⟨e, he, hk, hc, -⟩ := find_found HI.out.at_ hf
    obtain ⟨q, hq⟩ := HI.out.at_.ent he
    obtain ⟨⟨c0, c1, c2⟩, -⟩ := three hq
    have HP := Lib.hid (show GetPost d D0 key w (.returned (.tuple #[e.val, .bool true])) w1 from ⟨.inl ⟨e, HI.out.perm.mem_iff.1 he, hk, rfl⟩, D, HD.out, HI.out⟩)
    clear hf he hk hq c0 c2
    go_wp2_with (go_at_call 59; refine HF.out.mono ?_; rintro r w2 ⟨rfl, rfl⟩)
    go_ret2
    exact HP.out
end Go.Proofs.Ytbjfigegiffefaa
