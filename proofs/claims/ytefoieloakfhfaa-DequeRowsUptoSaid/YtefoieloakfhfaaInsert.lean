/- Insert: what is refused, an empty deque, a chunk that has room. -/
import Derived.Test.YtefoieloakfhfaaSet
namespace Pantry
/-- A chunk of 32 parted. -/
def partC (k : Nat) (c : List Txt) (cs : List (List Txt)) : List (List Txt) := putIn (cs.set k (c.take 16)) (k + 1) (c.drop 16)
/-- Insert, on the chunks. -/
def insC (i : Nat) (s : Txt) (cs : List (List Txt)) : List (List Txt) :=
  match cs[(findC cs i).1]? with
  | none => pushC true s cs
  | some c =>
    if c.length = 32 then
      if 16 ≤ (findC cs i).2 then (partC (findC cs i).1 c cs).set ((findC cs i).1 + 1) (insAt (c.drop 16) ((findC cs i).2 - 16) s)
      else (partC (findC cs i).1 c cs).set (findC cs i).1 (insAt (c.take 16) (findC cs i).2 s)
    else cs.set (findC cs i).1 (insAt c (findC cs i).2 s)
end Pantry
namespace Go.Proofs.Ytefoieloakfhfaa
open Go.RowKit Pantry

theorem ins_nil (w : World) (i : Int) (s : ByteArray) : Calls Try.prog 15 #[.pointer none, .int .i64 i, .string s] w fun e w' => e = .returned (.int .i64 1) ∧ w = w' := by
  go_enter Try.func15, Try.ntmps15
  go_wp2_with fail
  go_ret
  exact ⟨rfl, rfl⟩
theorem ins_arg (w : World) (d : Nat) (v : Value) (gs : List Nat) (cs : List (List Txt)) (i : Int) (s : ByteArray) (h : DeqAt w d v gs cs) (hi : i < 0 ∨ (total cs : Int) < i) :
    Calls Try.prog 15 #[.pointer (some ⟨d, 0, none⟩), .int .i64 i, .string s] w fun e w' => e = .returned (.int .i64 3) ∧ w = w' := by
  obtain ⟨⟨-, d1, -⟩, -⟩ := three h.head
  obtain ⟨N, hN⟩ : ∃ N, total cs = N := ⟨_, rfl⟩
  rw [hN] at hi d1
  clear h hN
  by_cases h0 : i < 0
  · clear hi
    go_enter Try.func15, Try.ntmps15
    go_wp2_with fail
    go_ret
    exact ⟨rfl, rfl⟩
  · have h1 : (N : Int) < i := by omega
    clear hi
    go_enter Try.func15, Try.ntmps15
    go_wp2_with fail
    go_ret
    exact ⟨rfl, rfl⟩
theorem ins_refused (w : World) (d : Nat) (v : Value) (gs : List Nat) (cs : List (List Txt)) (i : Int) (s : ByteArray) (code : Int) (h : DeqAt w d v gs cs) (hi : 0 ≤ i ∧ i ≤ (total cs : Int)) (hc : (code != 0) = true)
    (hr : Calls Try.prog 33 #[.pointer (some ⟨d, 0, none⟩), .string s] w fun e w' => e = .returned (.int .i64 code) ∧ w = w') :
    Calls Try.prog 15 #[.pointer (some ⟨d, 0, none⟩), .int .i64 i, .string s] w fun e w' => e = .returned (.int .i64 code) ∧ w = w' := by
  obtain ⟨⟨-, d1, -⟩, -⟩ := three h.head
  obtain ⟨N, hN⟩ : ∃ N, total cs = N := ⟨_, rfl⟩
  rw [hN] at hi d1
  have HR := Lib.hid hr
  clear h hN hr
  obtain ⟨h0, h1⟩ := hi
  go_enter Try.func15, Try.ntmps15
  go_wp2_with fail
  refine HR.out.mono ?_
  rintro e w' ⟨rfl, rfl⟩
  go_wp2_with fail
  go_ret
  exact ⟨rfl, rfl⟩
theorem ins_empty (w : World) (d : Nat) (v : Value) (gs : List Nat) (s : Txt) (h : DeqAt w d v gs []) (hs : s.length ≤ 1048576) :
    Calls Try.prog 15 #[.pointer (some ⟨d, 0, none⟩), .int .i64 0, .string ⟨s.toArray⟩] w (DeqPost d v gs (pushC true s []) (.int .i64 0) w) := by
  have HR := Lib.hid (refused_no w d v gs [] s h hs (by simp [total]))
  have HP := Lib.hid (push_ok w d v gs [] true s h DGood.nil hs (by simp [total]))
  obtain ⟨⟨-, d1, -⟩, -⟩ := three h.head
  rw [show ((total [] : Nat) : Int) = 0 from rfl] at d1
  clear h
  go_enter Try.func15, Try.ntmps15
  go_wp2_with fail
  refine HR.out.mono ?_
  rintro e w' ⟨rfl, rfl⟩
  go_wp2_with fail
  refine HP.out.mono ?_
  rintro e w' ⟨v', gs', rfl, hd, hc, hft⟩
  have HE := Lib.hid (show DeqPost d v gs (pushC true s []) (.int .i64 0) w (.returned (.int .i64 0)) w' from ⟨v', gs', rfl, hd, hc, hft⟩)
  clear hd hc hft
  go_wp2_with fail
  go_ret
  exact HE.out

set_option maxHeartbeats 4000000 in
set_option maxRecDepth 100000 in
theorem ins_room (w : World) (d : Nat) (v : Value) (gs : List Nat) (cs : List (List Txt)) (i : Nat) (s : Txt) (k p : Nat) (c : List Txt) (h : DeqAt w d v gs cs) (hf : Fits cs) (hne : cs ≠ []) (hi : i ≤ total cs) (ht0 : 0 < total cs) (hs : s.length ≤ 1048576) (ht : total cs < 1048576)
    (hkp : findC cs i = (k, p)) (h1 : cs[k]? = some c) (hc : c.length < 32) (hp : p ≤ c.length) :
    Calls Try.prog 15 #[.pointer (some ⟨d, 0, none⟩), .int .i64 i, .string ⟨s.toArray⟩] w (DeqPost d v gs (cs.set k (insAt c p s)) (.int .i64 0) w) := by
  have HR := Lib.hid (refused_no w d v gs cs s h hs ht)
  have hfind := find_any w d v gs cs i h hf hne (by omega)
  rw [hkp] at hfind
  have HFIND := Lib.hid hfind
  have HLAY := Lib.hid (lay_any w d v gs cs k p c s h h1 hc hp hf ht hs)
  obtain ⟨g, sb, cap, hg, hv, hkl, hnc, hcell, hch⟩ := h.at h1
  have hn := hch.n (by omega)
  obtain ⟨⟨d0, d1, -⟩, -⟩ := three h.head
  have hrl := hf.rows
  have HFOOT := Lib.hid (fun (w' : World) (cs' : List (List Txt)) (hd : DeqAt w' d v gs cs') (hc : Chg (Foot d v gs) w w') => show DeqPost d v gs cs' (.int .i64 0) w (.returned (.int .i64 0)) w' from ⟨v, gs, rfl, hd, hc, fun k hk => .inl hk⟩)
  subst hv
  obtain ⟨m, hm⟩ : ∃ m, cs.length = m := ⟨_, rfl⟩
  obtain ⟨n, hn2⟩ : ∃ n, c.length = n := ⟨_, rfl⟩
  obtain ⟨N, hN⟩ : ∃ N, total cs = N := ⟨_, rfl⟩
  rw [hm] at hkl hnc d0 hrl HLAY HFOOT ⊢
  rw [hn2] at hn hc
  rw [hN] at d1 hi ht0
  clear h hf h1 hg hch hm hn2 hN hkp hfind hne
  have h32 : ((n : Int) == 32) = false := by rw [beq_eq_false_iff_ne]; omega
  have hN0 : ((N : Int) == 0) = false := by rw [beq_eq_false_iff_ne]; omega
  have hiN : (i : Int) ≤ (N : Int) := by omega
  have hkm : (k : Int) < (m : Int) := by omega
  go_enter Try.func15, Try.ntmps15
  go_wp2_with fail
  refine HR.out.mono ?_
  rintro e w' ⟨rfl, rfl⟩
  go_wp2_with fail
  refine HFIND.out.mono ?_
  rintro e w' ⟨rfl, rfl⟩
  go_wp2_with fail
  refine HLAY.out.mono ?_
  rintro e w' ⟨rfl, hd, hcg⟩
  have HE := Lib.hid (HFOOT.out _ _ hd hcg)
  clear hd hcg
  go_wp2_with fail
  go_ret
  exact HE.out
end Go.Proofs.Ytefoieloakfhfaa
