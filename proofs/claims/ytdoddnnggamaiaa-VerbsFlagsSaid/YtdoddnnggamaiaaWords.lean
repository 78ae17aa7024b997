/- The document's table: words, number. -/
import Derived.Test.YtdoddnnggamaiaaSplit
import Derived.Test.YtdoddnnggamaiaaFind
namespace Go.Proofs.Ytdoddnnggamaiaa
open Go.RowKit Pantry
theorem Try.textsT : ElemT Try.prog 34 9 1 16 (.string ByteArray.empty) := ⟨Try.underlying34, by kernel_rfl, rfl, by decide, by decide⟩

def WordsPost (l : List (List UInt8)) (w : World) (e : Ending) (w' : World) : Prop :=
  ∃ v, e = .returned v ∧ w'.ownsRow w.heap.size 9 1 v l.length (txts l) ∧ Below w.heap.size w w'

set_option maxHeartbeats 400000 in
theorem words_any (s : ByteArray) (w : World) (hs : s.size ≤ 1048576) : Calls Try.prog 34 #[.string s] w (WordsPost (cutB 32 s.data.toList) w) := by
  obtain ⟨L, hL⟩ : ∃ L, s.data.toList = L := ⟨_, rfl⟩
  have hlen : L.length = s.size := by rw [← hL, Array.length_toList]; rfl
  have HS := Lib.hid hlen
  rw [hL]
  have HL := Lib.hid hL
  clear hL hlen
  go_enter Try.func34, Try.ntmps34
  go_wp2
  go_loopw [3, 4, 5] (fun v c i wr => ∃ k : Nat, k ≤ s.size + 1 ∧ i = .int .i64 k ∧ wr.ownsRow w.heap.size 9 1 v (cutAt 32 ((L ++ [32]).take k)).1.length (txts (cutAt 32 ((L ++ [32]).take k)).1) ∧ c = .string ⟨(cutAt 32 ((L ++ [32]).take k)).2.toArray⟩ ∧ Below w.heap.size w wr) (fun _ _ i _ => s.size + 1 - (intOf i).toNat)
  case atStart => exact ⟨0, Nat.zero_le _, rfl, World.ownsRow_nil _ _ _ _, rfl, Below.refl _ _⟩
  case round =>
    obtain ⟨k, hk, rfl, hown, rfl, hb⟩ := hrel
    obtain ⟨⟨D, C⟩, hDC⟩ : ∃ p, cutAt 32 ((L ++ [32]).take k) = p := ⟨_, rfl⟩
    rw [hDC] at hown ⊢
    have HDC := Lib.hid hDC
    simp only at hown
    clear hDC
    by_cases hlt : k < s.size
    · obtain ⟨b, hbk⟩ : ∃ b, s[k] = b := ⟨_, rfl⟩
      have HB := Lib.hid hbk
      have hnext := cutAt_take 32 (L ++ [32]) (k := k) (b := b) (by
        rw [List.getElem?_append_left (by rw [HS.out]; exact hlt), ← HL.out, ← hbk, List.getElem?_eq_getElem (by rw [Array.length_toList]; exact hlt), Array.getElem_toList]
        rfl)
      rw [HDC.out] at hnext
      have hD : D.length ≤ 1048577 := by
        have := cutAt_len 32 ((L ++ [32]).take k)
        rw [HDC.out] at this
        simp at this
        omega
      have hC : C.length ≤ 1048577 := by
        have := cutAt_len2 32 ((L ++ [32]).take k)
        rw [HDC.out] at this
        simp at this
        omega
      by_cases hb32 : b = 32
      · subst hb32
        rw [cutStep, if_pos rfl] at hnext
        have HN := Lib.hid hnext
        clear hnext hbk
        have h32 : (((s[k]).toNat : Int) != 32) = false := by rw [HB.out]; rfl
        have hsz := hb.size
        go_wp2_with (at_builtin; refine wpl_append1 Try.textsT rfl _ _ rfl w.heap.size rfl hown #[.string ⟨C.toArray⟩] rfl rfl (by simp [Value.oneCell']) (by omega) hsz ?_; intro v2 w2 hown2 hgrow2 hb2 hfr2)
        go_roundw
        case rel => exact ⟨k + 1, by omega, by go_num, by rw [HN.out, List.length_append, ← txts_snoc]; exact hown2, by rw [HN.out], hb.trans hb2⟩
        case measure => simp [intOf]; omega
      · rw [cutStep, if_neg hb32] at hnext
        have HN := Lib.hid hnext
        have h32 : (((s[k]).toNat : Int) != 32) = true := by rw [HB.out, bne_iff_ne]; intro h; apply hb32; apply UInt8.toNat_inj.1; exact Int.ofNat.inj h
        clear hnext hbk hb32
        go_wp2
        go_roundw
        case rel =>
          refine ⟨k + 1, by omega, by go_num, by rw [HN.out]; exact hown, ?_, hb⟩
          rw [HN.out]
          exact congrArg Value.string (bytes_ext (by rw [ByteArray.data_append, Array.toList_append, extract_one s k hlt, HB.out]))
        case measure => simp [intOf]; omega
    · have hk' : k = s.size ∨ k = s.size + 1 := by omega
      rcases hk' with rfl | rfl
      · have hnext := cutAt_take 32 (L ++ [32]) (k := s.size) (b := 32) (by rw [List.getElem?_append_right (by rw [HS.out]; omega), HS.out]; simp)
        rw [HDC.out, cutStep, if_pos rfl] at hnext
        have HN := Lib.hid hnext
        have hD : D.length ≤ 1048577 := by
          have := cutAt_len 32 ((L ++ [32]).take s.size)
          rw [HDC.out] at this
          simp at this
          omega
        clear hnext
        have hsz := hb.size
        go_wp2_with (at_builtin; refine wpl_append1 Try.textsT rfl _ _ rfl w.heap.size rfl hown #[.string ⟨C.toArray⟩] rfl rfl (by simp [Value.oneCell']) (by omega) hsz ?_; intro v2 w2 hown2 hgrow2 hb2 hfr2)
        go_roundw
        case rel => exact ⟨s.size + 1, by omega, by go_num, by rw [HN.out, List.length_append, ← txts_snoc]; exact hown2, by rw [HN.out], hb.trans hb2⟩
        case measure => simp [intOf]
      · have HD2 := Lib.hid (show cutB 32 L = D by
          have := HDC.out
          rw [List.take_of_length_le (by simp [HS.out])] at this
          rw [cutB, this])
        go_wp2
        go_ret
        exact ⟨u3, rfl, by rw [HD2.out]; exact hown, hb⟩

end Go.Proofs.Ytdoddnnggamaiaa
namespace Pantry
/-- The number of the digits read so far. -/
def numStep (n : Int) (b : UInt8) : Int := if b = 45 then n else 10 * n + ((b.toNat : Int) - 48)
def numAt (l : List UInt8) : Int := l.foldl numStep 0
def numB (l : List UInt8) : Int := if l.head? = some 45 then - numAt l else numAt l
/-- A word that is a small number. -/
def NumOk (l : List UInt8) : Prop := l ≠ [] ∧ l.length ≤ 9 ∧ ∀ b ∈ l, b = 45 ∨ 48 ≤ b.toNat ∧ b.toNat ≤ 57
instance (l : List UInt8) : Decidable (NumOk l) := by unfold NumOk; exact inferInstance
theorem numAt_take {l : List UInt8} {k : Nat} {b : UInt8} (h : l[k]? = some b) : numAt (l.take (k + 1)) = numStep (numAt (l.take k)) b := by
  obtain ⟨hk, rfl⟩ := List.getElem?_eq_some_iff.1 h
  rw [List.take_succ_eq_append_getElem hk]
  simp only [numAt, List.foldl_append, List.foldl_cons, List.foldl_nil]
theorem numAt_bound {l : List UInt8} (h : ∀ b ∈ l, b = 45 ∨ 48 ≤ b.toNat ∧ b.toNat ≤ 57) : ∀ k, k ≤ l.length → 0 ≤ numAt (l.take k) ∧ numAt (l.take k) + 1 ≤ 10 ^ k := by
  intro k
  induction k with
  | zero => intro _; simp [numAt]
  | succ k ih =>
    intro hk
    have hb := List.getElem?_eq_getElem (l := l) (i := k) (by omega)
    rw [numAt_take hb]
    obtain ⟨h1, h2⟩ := ih (by omega)
    have hx := h l[k] (List.getElem_mem _)
    unfold numStep
    rw [Int.pow_succ]
    split
    · omega
    · rcases hx with hx | hx
      · contradiction
      · omega
theorem numAt_small {l : List UInt8} (h : NumOk l) {k : Nat} (hk : k ≤ l.length) : 0 ≤ numAt (l.take k) ∧ numAt (l.take k) ≤ 1000000000 := by
  have := numAt_bound h.2.2 k hk
  have h9 := h.2.1
  have hp : (10 : Int) ^ k ≤ 10 ^ 9 := by
    have : k ≤ 9 := by omega
    exact_mod_cast Nat.pow_le_pow_right (by decide) this
  have e : (10 : Int) ^ 9 = 1000000000 := by decide
  omega
end Pantry
namespace Go.Proofs.Ytdoddnnggamaiaa
open Go.RowKit Pantry

set_option maxHeartbeats 400000 in
theorem number_any (s : ByteArray) (w : World) (hok : NumOk s.data.toList) : Calls Try.prog 35 #[.string s] w fun e w' => e = .returned (.int .i64 (numB s.data.toList)) ∧ w = w' := by
  obtain ⟨L, hL⟩ : ∃ L, s.data.toList = L := ⟨_, rfl⟩
  have hlen : L.length = s.size := by rw [← hL, Array.length_toList]; rfl
  rw [hL] at hok ⊢
  have hs9 : s.size ≤ 9 := by rw [← hlen]; exact hok.2.1
  have hs0 : 0 < s.size := by rw [← hlen]; exact List.length_pos_iff.2 hok.1
  have hget : ∀ k (hk : k < s.size), L[k]? = some s[k] := fun k hk => by
    rw [← hL, List.getElem?_eq_getElem (by rw [Array.length_toList]; exact hk), Array.getElem_toList]; rfl
  have HS := Lib.hid hlen
  have HG := Lib.hid hget
  have HL := Lib.hid hL
  have HO := Lib.hid hok
  clear hL hlen hget hok
  go_enter Try.func35, Try.ntmps35
  go_wp2
  go_loop [3, 4] (fun n i => ∃ k : Nat, k ≤ s.size ∧ i = .int .i64 k ∧ n = .int .i64 (numAt (L.take k))) (fun _ i => s.size - (intOf i).toNat)
  case atStart => exact ⟨0, Nat.zero_le _, rfl, rfl⟩
  case round =>
    obtain ⟨k, hk, rfl, rfl⟩ := hrel
    obtain ⟨b1, b2⟩ := numAt_small HO.out (k := k) (by rw [HS.out]; exact hk)
    obtain ⟨n, hn⟩ : ∃ n, numAt (L.take k) = n := ⟨_, rfl⟩
    rw [hn] at b1 b2 ⊢
    have HNn := Lib.hid hn
    clear hn
    by_cases hlt : k < s.size
    · have hstep := numAt_take (HG.out k hlt)
      rw [HNn.out] at hstep
      have hd : s[k] = 45 ∨ 48 ≤ s[k].toNat ∧ s[k].toNat ≤ 57 := HO.out.2.2 _ (List.mem_of_getElem? (HG.out k hlt))
      by_cases h45 : s[k] = 45
      · have ht : ((s[k].toNat : Int) != 45) = false := by rw [h45]; rfl
        rw [numStep, if_pos h45] at hstep
        have HT := Lib.hid hstep
        clear hstep hd h45
        go_wp2
        go_round
        case rel => exact ⟨k + 1, by omega, by go_num, by rw [HT.out]⟩
        case measure => simp [intOf]; omega
      · have ht : ((s[k].toNat : Int) != 45) = true := by rw [bne_iff_ne]; intro h; apply h45; apply UInt8.toNat_inj.1; exact Int.ofNat.inj h
        obtain ⟨d1, d2⟩ := hd.resolve_left h45
        rw [numStep, if_neg h45] at hstep
        have HT := Lib.hid hstep
        clear hstep hd h45
        go_wp2
        go_round
        case rel => exact ⟨k + 1, by omega, by go_num, by rw [HT.out]⟩
        case measure => simp [intOf]; omega
    · obtain rfl : k = s.size := by omega
      have hall : numAt L = n := by have := HNn.out; rwa [List.take_of_length_le (by rw [HS.out]; exact Nat.le_refl _)] at this
      have hhead : L.head? = some s[0] := by rw [List.head?_eq_getElem?]; exact HG.out 0 hs0
      by_cases h45 : s[0] = 45
      · have ht : ((s[0].toNat : Int) == 45) = true := by rw [h45]; rfl
        have HF := Lib.hid (show numB L = -n by rw [numB, hhead, h45, if_pos rfl, hall])
        clear hall hhead h45 hlt
        go_wp2
        go_ret
        exact ⟨by rw [HF.out]; rfl, rfl⟩
      · have ht : ((s[0].toNat : Int) == 45) = false := by rw [beq_eq_false_iff_ne]; intro h; apply h45; apply UInt8.toNat_inj.1; exact Int.ofNat.inj h
        have HF := Lib.hid (show numB L = n by rw [numB, hhead, if_neg (by intro h; exact h45 (Option.some.inj h)), hall])
        clear hall hhead h45 hlt
        go_wp2
        go_ret
        exact ⟨by rw [HF.out]; rfl, rfl⟩
end Go.Proofs.Ytdoddnnggamaiaa
