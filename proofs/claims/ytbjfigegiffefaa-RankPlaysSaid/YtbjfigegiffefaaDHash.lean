/- The hash of a text: a plain function. -/
import Derived.Test.YtbjfigegiffefaaOwn
import Derived.Test.YtbjfigegiffefaaProg
set_option linter.unusedVariables false
set_option linter.unusedSimpArgs false
namespace Pantry
open Go Go.RowKit
abbrev DTxt := List UInt8
def u64top : Nat := 18446744073709551616
def hStep (h c : Nat) : Nat := ((h ^^^ c) * 1099511628211) % 18446744073709551616
def hMix (h : Nat) (k : Nat) : Nat := h ^^^ (h / 2 ^ k)
def hEnd (h : Nat) : Nat := hMix ((hMix h 32 * 11400714819323198485) % 18446744073709551616) 29
def hStart (seed : Nat) : Nat := 14695981039346656037 ^^^ seed
def hRun (seed : Nat) (s : List UInt8) : Nat := (s.map (·.toNat)).foldl hStep (hStart seed)
def hashN (seed : Nat) (s : List UInt8) : Nat := hEnd (hRun seed s)
theorem hx_lt {a b : Nat} (ha : a < 18446744073709551616) (hb : b < 18446744073709551616) : a ^^^ b < 18446744073709551616 := Nat.xor_lt_two_pow (n := 64) ha hb
theorem hStep_lt (h c : Nat) : hStep h c < 18446744073709551616 := Nat.mod_lt _ (by decide)
theorem hStart_lt {seed : Nat} (h : seed < 18446744073709551616) : hStart seed < 18446744073709551616 := by
  unfold hStart
  exact hx_lt (by decide) h
theorem hFold_lt (l : List Nat) : ∀ a, a < 18446744073709551616 → l.foldl hStep a < 18446744073709551616 := by
  induction l with
  | nil => intro a h; exact h
  | cons c l ih =>
    intro a _
    rw [List.foldl_cons]
    exact ih _ (hStep_lt _ _)
theorem hRun_lt {seed : Nat} (h : seed < 18446744073709551616) (s : List UInt8) : hRun seed s < 18446744073709551616 := by
  unfold hRun
  exact hFold_lt _ _ (hStart_lt h)
theorem hMix_lt {h : Nat} (k : Nat) (hl : h < 18446744073709551616) : hMix h k < 18446744073709551616 := by
  unfold hMix
  exact hx_lt hl (Nat.lt_of_le_of_lt (Nat.div_le_self _ _) hl)
theorem hashN_lt (seed : Nat) (s : List UInt8) : hashN seed s < 18446744073709551616 := by
  unfold hashN hEnd
  exact hMix_lt _ (Nat.mod_lt _ (by decide))
theorem foldl_snoc_at (f : Nat → Nat → Nat) (a : Nat) (s : List UInt8) (k : Nat) {c : UInt8} (h : s[k]? = some c) :
    ((s.take (k + 1)).map (·.toNat)).foldl f a = f (((s.take k).map (·.toNat)).foldl f a) c.toNat := by
  rw [List.take_add_one, h]
  simp
theorem hRun_snoc (seed : Nat) (s : List UInt8) (k : Nat) {c : UInt8} (h : s[k]? = some c) : hRun seed (s.take (k + 1)) = hStep (hRun seed (s.take k)) c.toNat := by
  unfold hRun
  exact foldl_snoc_at hStep (hStart seed) s k h
theorem xorI {a b : Nat} (ha : a < 18446744073709551616) (hb : b < 18446744073709551616) : bits .xor .u64 (a : Int) (b : Int) = ((a ^^^ b : Nat) : Int) := bits_xor_u64_nat a b ha hb
theorem mulI {a b : Nat} : IntKind.u64.wrap ((a : Int) * (b : Int)) = (((a * b) % 18446744073709551616 : Nat) : Int) := by
  rw [IntKind.wrap_u64]; omega
theorem mixI {a k : Nat} (c : Int) (hc : c = ((2 ^ k : Nat) : Int)) (ha : a < 18446744073709551616) : bits .xor .u64 (a : Int) ((a : Int) / c) = ((hMix a k : Nat) : Int) := by
  subst hc
  have e : ((a : Int) / ((2 ^ k : Nat) : Int)) = ((a / 2 ^ k : Nat) : Int) := by simp
  rw [e]
  unfold hMix
  exact xorI ha (Nat.lt_of_le_of_lt (Nat.div_le_self _ _) ha)
theorem hEnd_int {r : Nat} (h : r < 18446744073709551616) :
    bits .xor .u64 (IntKind.u64.wrap (bits .xor .u64 (r : Int) ((r : Int) / 4294967296) * 11400714819323198485)) (IntKind.u64.wrap (bits .xor .u64 (r : Int) ((r : Int) / 4294967296) * 11400714819323198485) / 536870912) = ((hEnd r : Nat) : Int) := by
  rw [mixI (k := 32) 4294967296 (by decide) h]
  have e := mulI (a := hMix r 32) (b := 11400714819323198485)
  rw [show (((11400714819323198485 : Nat)) : Int) = 11400714819323198485 from rfl] at e
  rw [e]
  unfold hEnd
  exact mixI (k := 29) 536870912 (by decide) (Nat.mod_lt _ (by decide))
end Pantry
namespace Go.Proofs.Ytbjfigegiffefaa
open Go.RowKit Pantry

set_option maxHeartbeats 1000000 in
theorem hash_any (w : World) (seed : Nat) (s : List UInt8) (hs : s.length ≤ 140737488351232) (hseed : seed < 18446744073709551616) :
    Calls Try.prog 74 #[.int .u64 seed, .string ⟨s.toArray⟩] w fun e w' => e = .returned (.int .u64 (hashN seed s : Nat)) ∧ w = w' := by
  obtain ⟨n, hn⟩ : ∃ n, s.length = n := ⟨_, rfl⟩
  have HN := Lib.hid hn
  have hsz : (⟨s.toArray⟩ : ByteArray).size = n := by simp [ByteArray.size, hn]
  rw [hn] at hs
  have hx0 : bits .xor .u64 14695981039346656037 (seed : Int) = ((hStart seed : Nat) : Int) := by
    unfold hStart
    exact xorI (a := 14695981039346656037) (by decide) hseed
  clear hn
  go_enter Try.func74, Try.ntmps74
  go_wp2_with fail
  go_loop [5, 6, 11] (fun a _ b => ∃ k : Nat, k ≤ n ∧ a = .int .u64 (hRun seed (s.take k) : Nat) ∧ b = .int .i64 k) (fun _ _ b => n - (intOf b).toNat)
  case atStart => exact ⟨0, Nat.zero_le _, by simp [hRun], rfl⟩
  case round =>
    obtain ⟨k, hk, rfl, rfl⟩ := hrel
    by_cases hlt : k < n
    · obtain ⟨c, hc⟩ : ∃ c, s[k]? = some c := ⟨_, List.getElem?_eq_getElem (by have := HN.out; omega)⟩
      have hr := hRun_snoc seed s k hc
      have hl := hRun_lt hseed (s.take k)
      obtain ⟨r, hr1⟩ : ∃ r, hRun seed (s.take k) = r := ⟨_, rfl⟩
      obtain ⟨r2, hr2⟩ : ∃ r, hRun seed (s.take (k + 1)) = r := ⟨_, rfl⟩
      rw [hr1] at hl hr ⊢
      have hc8 : c.toNat < 256 := c.toNat_lt
      have hx : bits .xor .u64 (r : Int) (c.toNat : Int) = ((r ^^^ c.toNat : Nat) : Int) := xorI hl (by omega)
      have hm : IntKind.u64.wrap (((r ^^^ c.toNat : Nat) : Int) * 1099511628211) = ((r2 : Nat) : Int) := by
        rw [← hr2, hr]; unfold hStep; exact mulI (b := 1099511628211)
      have hb : ∀ pf, (⟨s.toArray⟩ : ByteArray)[k]'pf = c := fun pf => by
        have := (List.getElem?_eq_some_iff.1 hc).2
        simpa [ByteArray.getElem_eq_getElem_data] using this
      have hw : IntKind.u64.wrap (c.toNat : Int) = (c.toNat : Int) := by rw [IntKind.wrap_u64]; omega
      go_wp2_with fail
      go_round
      case rel => exact ⟨k + 1, by omega, by rw [hr2], by go_num⟩
      case measure => simp [intOf]; omega
    · obtain rfl : k = n := by omega
      have he := hEnd_int (hRun_lt hseed s)
      have hrs : hRun seed (s.take k) = hRun seed s := by rw [List.take_of_length_le (by rw [HN.out]; omega)]
      go_wp2_with fail
      go_ret
      exact ⟨rfl, rfl⟩
end Go.Proofs.Ytbjfigegiffefaa
