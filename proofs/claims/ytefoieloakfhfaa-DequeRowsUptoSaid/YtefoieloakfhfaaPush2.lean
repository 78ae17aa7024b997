/- Push. -/
import Derived.Test.YtefoieloakfhfaaPush
namespace Go.Proofs.Ytefoieloakfhfaa
open Go.RowKit Pantry

theorem refused_long (w : World) (d : Nat) (s : Txt) (hs : 1048576 < s.length) (hs2 : s.length ≤ 281474976710656) : Calls Try.prog 33 #[.pointer (some ⟨d, 0, none⟩), .string ⟨s.toArray⟩] w fun e w' => e = .returned (.int .i64 2) ∧ w = w' := by
  have hsz := mk_size s
  have hsz2 : (1048576 : Int) < (s.length : Int) := by omega
  go_enter Try.func33, Try.ntmps33
  go_wp2_with fail
  go_ret
  exact ⟨rfl, rfl⟩
theorem refused_full (w : World) (d : Nat) (v : Value) (gs : List Nat) (cs : List (List Txt)) (s : Txt) (h : DeqAt w d v gs cs) (hs : s.length ≤ 1048576) (ht : 1048576 ≤ total cs) : Calls Try.prog 33 #[.pointer (some ⟨d, 0, none⟩), .string ⟨s.toArray⟩] w fun e w' => e = .returned (.int .i64 4) ∧ w = w' := by
  have hsz := mk_size s
  obtain ⟨⟨d0, d1, d2⟩, -⟩ := three h.head
  have h1 : ¬ (1048576 : Int) < (s.length : Int) := by omega
  have h2 : (1048576 : Int) ≤ ((total cs : Nat) : Int) := by omega
  go_enter Try.func33, Try.ntmps33
  go_wp2_with fail
  go_ret
  exact ⟨rfl, rfl⟩
theorem refused_no (w : World) (d : Nat) (v : Value) (gs : List Nat) (cs : List (List Txt)) (s : Txt) (h : DeqAt w d v gs cs) (hs : s.length ≤ 1048576) (ht : total cs < 1048576) : Calls Try.prog 33 #[.pointer (some ⟨d, 0, none⟩), .string ⟨s.toArray⟩] w fun e w' => e = .returned (.int .i64 0) ∧ w = w' := by
  have hsz := mk_size s
  obtain ⟨⟨d0, d1, d2⟩, -⟩ := three h.head
  have h1 : ¬ (1048576 : Int) < (s.length : Int) := by omega
  have h2 : ¬ (1048576 : Int) ≤ ((total cs : Nat) : Int) := by omega
  go_enter Try.func33, Try.ntmps33
  go_wp2_with fail
  go_ret
  exact ⟨rfl, rfl⟩
theorem push_nil (w : World) (ahead : Bool) (s : ByteArray) : Calls Try.prog 11 #[.pointer none, .bool ahead, .string s] w fun e w' => e = .returned (.int .i64 1) ∧ w = w' := by
  go_enter Try.func11, Try.ntmps11
  go_wp2_with fail
  go_ret
  exact ⟨rfl, rfl⟩
theorem push_long (w : World) (d : Nat) (ahead : Bool) (s : Txt) (hs : 1048576 < s.length) (hs2 : s.length ≤ 281474976710656) : Calls Try.prog 11 #[.pointer (some ⟨d, 0, none⟩), .bool ahead, .string ⟨s.toArray⟩] w fun e w' => e = .returned (.int .i64 2) ∧ w = w' := by
  go_enter Try.func11, Try.ntmps11
  go_wp2_with (go_at_call 33; refine (refused_long _ _ _ hs hs2).mono ?_; rintro e w' ⟨rfl, rfl⟩)
  go_ret
  exact ⟨rfl, rfl⟩
theorem push_full (w : World) (d : Nat) (v : Value) (gs : List Nat) (cs : List (List Txt)) (ahead : Bool) (s : Txt) (h : DeqAt w d v gs cs) (hs : s.length ≤ 1048576) (ht : 1048576 ≤ total cs) : Calls Try.prog 11 #[.pointer (some ⟨d, 0, none⟩), .bool ahead, .string ⟨s.toArray⟩] w fun e w' => e = .returned (.int .i64 4) ∧ w = w' := by
  have HR := Lib.hid (refused_full w d v gs cs s h hs ht)
  clear h ht hs
  go_enter Try.func11, Try.ntmps11
  go_wp2_with (go_at_call 33; refine HR.out.mono ?_; rintro e w' ⟨rfl, rfl⟩)
  go_ret
  exact ⟨rfl, rfl⟩

set_option maxHeartbeats 4000000 in
set_option maxRecDepth 100000 in
/-- There is room in the chunk. -/
theorem push_room (w : World) (d : Nat) (v : Value) (gs : List Nat) (cs : List (List Txt)) (ahead : Bool) (s : Txt) (c : List Txt) (h : DeqAt w d v gs cs) (hf : Fits cs) (hs : s.length ≤ 1048576) (ht : total cs < 1048576)
    (hc : cs[if ahead then 0 else cs.length - 1]? = some c) (hc32 : c.length < 32) :
    Calls Try.prog 11 #[.pointer (some ⟨d, 0, none⟩), .bool ahead, .string ⟨s.toArray⟩] w (DeqPost d v gs (cs.set (if ahead then 0 else cs.length - 1) (insAt c (if ahead then 0 else c.length) s)) (.int .i64 0) w) := by
  have HR := Lib.hid (refused_no w d v gs cs s h hs ht)
  obtain ⟨g, sb, cap, hg, hv, hkl, hnc, hcell, hch⟩ := h.at hc
  have hn := hch.n (by omega)
  obtain ⟨⟨d0, d1, d2⟩, -⟩ := three h.head
  have HLAY := Lib.hid (lay_any w d v gs cs (if ahead then 0 else cs.length - 1) (if ahead then 0 else c.length) c s h hc hc32 (by split <;> omega) hf ht hs)
  have HFOOT := Lib.hid (fun (w' : World) (cs' : List (List Txt)) (hd : DeqAt w' d v gs cs') (hc : Chg (Foot d v gs) w w') => show DeqPost d v gs cs' (.int .i64 0) w (.returned (.int .i64 0)) w' from ⟨v, gs, rfl, hd, hc, fun k hk => .inl hk⟩)
  have hrl := hf.rows
  subst hv
  obtain ⟨m, hm⟩ : ∃ m, cs.length = m := ⟨_, rfl⟩
  obtain ⟨n, hn2⟩ : ∃ n, c.length = n := ⟨_, rfl⟩
  rw [hm] at hkl hnc d0 hrl hcell HLAY HFOOT
  rw [hn2] at hn hc32 HLAY
  rw [hm, hn2]
  have hm0 : 0 < m := by
    cases ahead with
    | true => simpa using hkl
    | false => simp at hkl; omega
  clear h hc hf hg hch d1 d2 hm hn2
  have h32 : ((n : Int) == 32) = false := by rw [beq_eq_false_iff_ne]; omega
  have hm1 : ((m : Int) == 0) = false := by rw [beq_eq_false_iff_ne]; omega
  cases ahead with
  | true =>
    simp only [if_true] at hcell HLAY ⊢
    go_enter Try.func11, Try.ntmps11
    go_wp2_with (first
      | (go_at_call 33; refine HR.out.mono ?_; rintro e w' ⟨rfl, rfl⟩)
      | (go_at_call 35; refine HLAY.out.mono ?_; rintro e w' ⟨rfl, hd, hcg⟩))
    go_ret
    exact HFOOT.out _ _ hd hcg
  | false =>
    simp only [Bool.false_eq_true, if_false] at hcell HLAY ⊢
    obtain ⟨j, rfl⟩ : ∃ j, m = j + 1 := ⟨m - 1, by omega⟩
    simp only [Nat.add_sub_cancel] at hcell HLAY ⊢
    go_enter Try.func11, Try.ntmps11
    go_wp2_with (first
      | (go_at_call 33; refine HR.out.mono ?_; rintro e w' ⟨rfl, rfl⟩)
      | (go_at_call 35; refine HLAY.out.mono ?_; rintro e w' ⟨rfl, hd, hcg⟩))
    go_ret
    exact HFOOT.out _ _ hd hcg
end Go.Proofs.Ytefoieloakfhfaa
