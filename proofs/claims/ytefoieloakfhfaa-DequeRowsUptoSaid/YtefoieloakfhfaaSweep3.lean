/- sweep. -/
import Derived.Test.YtefoieloakfhfaaSweep2
namespace Go.Proofs.Ytefoieloakfhfaa
open Go.RowKit Pantry

/-- The empty chunks have gone from the row, the head is not told of it yet. -/
theorem DeqAt.swept {w w3 w4 : World} {d : Nat} {v v' : Value} {gs : List Nat} {cs : List (List Txt)} (h : DeqAt w d v gs cs)
    (hc : Chg (fun j => v.ownBlock = some j) w w3) (hrow : w3.ownsRow 0 67 1 v' (kept gs cs).length ((kept gs cs).map ptr)) (hv : ∀ j, v'.ownBlock = some j → v.ownBlock = some j ∨ w.heap.size ≤ j)
    (hu : Upd d (.cells #[v', .int .i64 (total cs : Nat), .int .i64 (costOf cs : Nat)] 62) w3 w4) : DeqAt w4 d v' (kept gs cs) (full cs) := by
  have hl := h.len
  have hmem : ∀ {x}, x ∈ kept gs cs → x ∈ gs := fun hx => (kept_sub gs cs).subset hx
  refine ⟨by rw [total_full, costOf_full]; exact hu.here, ?_, ?_, h.nodup.sublist (kept_sub gs cs), fun hm => h.notd (hmem hm), ?_, ?_⟩
  · rw [← kept_length hl]
    refine Chg.ownsRow hrow hu.chg fun j hj e => ?_
    subst e
    rcases hv _ hj with h1 | h1
    · exact h.rowd h1
    · have := h.lt j (.inl rfl); omega
  · intro i gi ci hi hci
    obtain ⟨j, h1, h2⟩ := kept_pair hi hci hl
    have hm := List.mem_of_getElem? h1
    have hne : gi ≠ d := fun e => h.notd (by rw [← e]; exact hm)
    unfold ChunkAt
    rw [hu.other gi hne]
    exact hc.heap (h.chunk j gi ci h1 h2) fun e => h.rowg _ e hm
  · intro e
    rcases hv d e with h1 | h1
    · exact h.rowd h1
    · have := h.lt d (.inl rfl); omega
  · intro j hj hm
    rcases hv j hj with h1 | h1
    · exact h.rowg j h1 (hmem hm)
    · have := h.lt j (.inr (.inl (hmem hm))); omega

set_option maxHeartbeats 2000000 in
set_option maxRecDepth 100000 in
theorem sweep_any (w : World) (d : Nat) (v : Value) (gs : List Nat) (cs : List (List Txt)) (h : DeqAt w d v gs cs) (hf : Fits cs) :
    Calls Try.prog 40 #[.pointer (some ⟨d, 0, none⟩)] w (DeqPost d v gs (full cs) (.tuple #[]) w) := by
  have HDEL := Lib.hid (delfunc_any w v gs cs h.row h.chunk hf h.rowg)
  obtain ⟨⟨d0, -, -⟩, -⟩ := three h.head
  obtain ⟨a0, c0, hv, -⟩ := ownsRow_rd h.row (ptr_one gs)
  have HNEXT := Lib.hid (fun (v' : Value) (w2 : World) (r1 : w2.ownsRow 0 67 1 v' (kept gs cs).length ((kept gs cs).map ptr)) (hcg : Chg (fun q => v.ownBlock = some q) w w2) (r3 : ∀ q, v'.ownBlock = some q → v.ownBlock = some q ∨ w.heap.size ≤ q) =>
    show (∃ x y, w2.heap[d]? = some (.cells #[v, x, y] 62)) ∧ DeqPost d v gs (full cs) (.tuple #[]) w (.returned (.tuple #[])) (w2.setCell ⟨d, 0, none⟩ v') from by
    have hd2 := hcg.heap h.head (fun e => h.rowd e)
    have hU := (Upd.same hd2).setCell 0 v'
    have hrm := h.swept hcg r1 r3 hU
    refine ⟨⟨_, _, hd2⟩, v', kept gs cs, rfl, hrm, (hcg.mono fun q _ e => .inr (.inr e)).trans hU.chg (fun q _ e => .inl e), fun q hq => ?_⟩
    rcases hq with rfl | hq | hq
    · exact .inl (.inl rfl)
    · exact .inl (.inr (.inl ((kept_sub gs cs).subset hq)))
    · rcases r3 q hq with e | e
      · exact .inl (.inr (.inr e))
      · exact .inr e)
  obtain ⟨m, hm⟩ : ∃ m, cs.length = m := ⟨_, rfl⟩
  rw [hm] at hv
  clear h hf hm
  subst hv
  go_enter Try.func40, Try.ntmps40
  go_wp2_with fail
  refine HDEL.out.mono ?_
  rintro e w2 ⟨v', rfl, r1, r2, r3⟩
  obtain ⟨⟨x, y, hd2⟩, HP⟩ := HNEXT.out v' w2 r1 r2 r3
  have HPP := Lib.hid HP
  obtain ⟨a', c', rfl, -⟩ := ownsRow_rd r1 (ptr_one _)
  obtain ⟨⟨e0, -, -⟩, ef⟩ := three hd2
  have ef0 := ef 0
  clear hd2 HP r1 r2 r3 ef
  go_wp2_with fail
  go_end0
  exact HPP.out
end Go.Proofs.Ytefoieloakfhfaa
