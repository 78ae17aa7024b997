/- The text at a place: At; a deque that is none. -/
import Derived.Test.YtefoieloakfhfaaFind
namespace Pantry
open Go Go.RowKit
theorem flatten_at {cs : List (List Txt)} {k p : Nat} {c : List Txt} (h : cs[k]? = some c) (hp : p < c.length) : cs.flatten[total (cs.take k) + p]? = c[p]? := by
  induction cs generalizing k with
  | nil => simp at h
  | cons a l ih =>
    cases k with
    | zero =>
      simp at h; subst h
      simp only [List.take_zero, List.flatten_cons]
      rw [List.getElem?_append_left (by simp [total]; exact hp)]
      simp [total]
    | succ k =>
      have ht : total ((a :: l).take (k + 1)) = a.length + total (l.take k) := by simp [total]
      rw [ht, List.flatten_cons, List.getElem?_append_right (by omega), show a.length + total (l.take k) + p - a.length = total (l.take k) + p by omega]
      exact ih (by simpa using h)
theorem flatten_length (cs : List (List Txt)) : cs.flatten.length = total cs := by simp [total]
/-- Where the text at a place lies. -/
theorem find_text {cs : List (List Txt)} {i : Nat} {x : Txt} (h : cs.flatten[i]? = some x) : ∃ c, cs[(findC cs i).1]? = some c ∧ c[(findC cs i).2]? = some x ∧ (findC cs i).2 < c.length := by
  have hi : i < total cs := by rw [← flatten_length]; exact (List.getElem?_eq_some_iff.1 h).1
  have hne : cs ≠ [] := by rintro rfl; simp [total] at hi
  obtain ⟨c, h1, _, h3, h4⟩ := findC_spec hne (Nat.le_of_lt hi)
  refine ⟨c, h1, ?_, h4 hi⟩
  rw [← flatten_at h1 (h4 hi), h3, h]
end Pantry
namespace Go.Proofs.Ytefoieloakfhfaa
open Go.RowKit Pantry

theorem len_nil (w : World) : Calls Try.prog 16 #[.pointer none] w fun e w' => e = .returned (.int .i64 0) ∧ w = w' := by
  go_enter Try.func16, Try.ntmps16
  go_wp2_with fail
  go_ret
  exact ⟨rfl, rfl⟩
theorem cost_nil (w : World) : Calls Try.prog 14 #[.pointer none] w fun e w' => e = .returned (.int .i64 0) ∧ w = w' := by
  go_enter Try.func14, Try.ntmps14
  go_wp2_with fail
  go_ret
  exact ⟨rfl, rfl⟩

set_option maxHeartbeats 1000000 in
theorem at_in (w : World) (d : Nat) (v : Value) (gs : List Nat) (cs : List (List Txt)) (i : Nat) (x : Txt) (h : DeqAt w d v gs cs) (hf : Fits cs) (hx : cs.flatten[i]? = some x) :
    Calls Try.prog 23 #[.pointer (some ⟨d, 0, none⟩), .int .i64 i] w fun e w' => e = .returned (.tuple #[.string ⟨x.toArray⟩, .bool true]) ∧ w = w' := by
  obtain ⟨c, h1, h2, h3⟩ := find_text hx
  have hi : i < total cs := by rw [← flatten_length]; exact (List.getElem?_eq_some_iff.1 hx).1
  have hne : cs ≠ [] := by rintro rfl; simp [total] at hi
  have hlen := len_any w d v gs cs h
  have hfind := find_any w d v gs cs i h hf hne (by have := hf.total; omega)
  obtain ⟨⟨k, p⟩, hkp⟩ : ∃ q, findC cs i = q := ⟨_, rfl⟩
  rw [hkp] at h1 h2 h3 hfind
  simp only at h1 h2 h3 hfind
  obtain ⟨g, sb, cap, -, hv, hkl, hnc, hcell, hch⟩ := h.at h1
  have hcl := hf.chunk c (List.mem_of_getElem? h1)
  have htx := hch.text h2
  obtain ⟨⟨d0, d1, d2⟩, -⟩ := three h.head
  have hrl := hf.rows
  subst hv
  obtain ⟨m, hm⟩ : ∃ m, cs.length = m := ⟨_, rfl⟩
  obtain ⟨N, hN⟩ : ∃ N, total cs = N := ⟨_, rfl⟩
  rw [hm] at hkl hnc d0 hrl
  rw [hN] at hi hlen
  have hp32 : (p : Int) < 32 := by omega
  have HL := Lib.hid hlen
  have HF := Lib.hid hfind
  clear hlen hfind h hf hx h1 h2 h3 hch hm hN hkp hne d1 d2 hcl
  go_enter Try.func23, Try.ntmps23
  go_wp2_with (first
    | (go_at_call 16; refine HL.out.mono ?_; rintro e w' ⟨rfl, rfl⟩)
    | (go_at_call 36; refine HF.out.mono ?_; rintro e w' ⟨rfl, rfl⟩))
  go_ret2
  exact ⟨rfl, rfl⟩
theorem at_out (w : World) (d : Nat) (v : Value) (gs : List Nat) (cs : List (List Txt)) (i : Int) (h : DeqAt w d v gs cs) (hi : i < 0 ∨ (total cs : Int) ≤ i) :
    Calls Try.prog 23 #[.pointer (some ⟨d, 0, none⟩), .int .i64 i] w fun e w' => e = .returned (.tuple #[.string ⟨#[]⟩, .bool false]) ∧ w = w' := by
  have HL := Lib.hid (len_any w d v gs cs h)
  obtain ⟨N, hN⟩ : ∃ N, total cs = N := ⟨_, rfl⟩
  rw [hN] at hi HL
  clear h hN
  by_cases h0 : i < 0
  · clear hi
    go_enter Try.func23, Try.ntmps23
    go_wp2_with fail
    go_ret2
    exact ⟨rfl, rfl⟩
  · have h1 : (N : Int) ≤ i := by omega
    clear hi
    go_enter Try.func23, Try.ntmps23
    go_wp2_with (go_at_call 16; refine HL.out.mono ?_; rintro e w' ⟨rfl, rfl⟩)
    go_ret2
    exact ⟨rfl, rfl⟩
theorem at_nil (w : World) (i : Int) :
    Calls Try.prog 23 #[.pointer none, .int .i64 i] w fun e w' => e = .returned (.tuple #[.string ⟨#[]⟩, .bool false]) ∧ w = w' := by
  by_cases h0 : i < 0
  · go_enter Try.func23, Try.ntmps23
    go_wp2_with fail
    go_ret2
    exact ⟨rfl, rfl⟩
  · have h1 : (0 : Int) ≤ i := by omega
    go_enter Try.func23, Try.ntmps23
    go_wp2_with (go_at_call 16; refine (len_nil _).mono ?_; rintro e w' ⟨rfl, rfl⟩)
    go_ret2
    exact ⟨rfl, rfl⟩
theorem new_any (w : World) : Calls Try.prog 10 #[] w fun e w' => e = .returned (.pointer (some ⟨w.heap.size, 0, none⟩)) ∧ w' = w.alloc (.cells #[.slice none 0 0, .int .i64 0, .int .i64 0] 62) := by
  go_enter Try.func10, Try.ntmps10
  go_wp2_with fail
  go_ret
  exact ⟨rfl, rfl⟩
theorem new_deq (w : World) : DeqAt (w.alloc (.cells #[.slice none 0 0, .int .i64 0, .int .i64 0] 62)) w.heap.size (.slice none 0 0) [] [] :=
  ⟨heap_alloc_new w _, World.ownsRow_nil _ _ _ _, fun i g c h => by simp at h, List.nodup_nil, by simp, by simp [Value.ownBlock], by simp⟩
end Go.Proofs.Ytefoieloakfhfaa
