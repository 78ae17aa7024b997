/- The program's Names; same and spoil. -/
import Derived.Test.YtdoddnnggamaiaaRefFind
namespace Pantry
open Go Go.RowKit
theorem grownBy_refl (w : World) (row : Option Nat) : w.grownBy w row := ⟨rfl, rfl, rfl, Nat.le_refl _, fun _ _ _ => rfl⟩
theorem grownBy_trans {w w1 w2 : World} {row row2 : Option Nat} (h : w.grownBy w1 row) (k : w1.grownBy w2 row2) (hr : ∀ b, row2 = some b → row = some b ∨ w.heap.size ≤ b) : w.grownBy w2 row :=
  ⟨k.os.trans h.os, k.tape.trans h.tape, k.output.trans h.output, Nat.le_trans h.size k.size, fun b hb hne => (k.block b (Nat.lt_of_lt_of_le hb h.size) (fun e => by
    rcases hr b e.symm with h1 | h1
    · exact hne h1.symm
    · omega)).trans (h.block b hb hne)⟩
theorem ownsRow_grown {w w' : World} {base : Nat} {e : TypeId} {size : Nat} {v : Value} {n : Nat} {xs : List Value} {row : Option Nat} (h : w.ownsRow base e size v n xs) (hg : w.grownBy w' row) (hne : ∀ b, v.ownBlock = some b → row ≠ some b) : w'.ownsRow base e size v n xs := by
  refine ⟨h.1, ?_⟩
  rcases h.2 with hn | ⟨g, cap, cur, rfl, h1, hgg, r⟩
  · exact .inl hn
  · exact .inr ⟨g, cap, cur, rfl, h1, (hg.block g (Array.getElem?_eq_some_iff.1 hgg).1 (fun e => hne g rfl e.symm)).trans hgg, r⟩
/-- An append of one element behind other new blocks. -/
theorem wpl_append1_at {P : Program} {t e : TypeId} {size bytes : Nat} {z : Value} (E : ElemT P t e size bytes z) {w : World} {ops : Array Oper} {rest : List Oper} {o : Oper} {a : Act} {Q : Exit → Act → World → Prop} (hgd : o.guard = none) (s x : Operand)
    (ho : o.op = .call { callee := .builtin .append, args := #[s, x], argTypes := #[t, t] })
    (base : Nat) {v : Value} {n : Nat} {xs : List Value} (hs : a.eval s = v) (hown : w.ownsRow base e size v n xs)
    (us : Array Value) {H : Nat} (hx : a.eval x = .slice (some ⟨H, 0, none⟩) 1 1) (hH : w.heap.size = H) (hl : us.size = size) (h1 : ∀ u ∈ us, u.oneCell' = true)
    (hbytes : (n + 1) * bytes ≤ 140737488355328) (hbase : base ≤ w.heap.size)
    (h : ∀ v' w', w'.ownsRow base e size v' (n + 1) (xs ++ us.toList) → w.grownBy w' v.ownBlock → Below base w w' → (∀ k, v'.ownBlock = some k → v.ownBlock = some k ∨ w.heap.size ≤ k) → wpList P ops Q rest (a.put o.dst v') w') : wpList P ops Q (o :: rest) a (w.alloc (.cells us e)) := by
  subst hH
  exact wpl_append1 E hgd s x ho base hs hown us hx hl h1 hbytes hbase h
/-- It returns nothing; only one row may have been written. -/
def Wrote (w : World) (row : Option Nat) (e : Ending) (w' : World) : Prop := e = .returned (.tuple #[]) ∧ w.grownBy w' row
theorem txts_map_set (l : List (List UInt8)) (k : Nat) (x : List UInt8) : (txts l).set k (txt x) = txts (l.set k x) := by simp [txts, List.map_set]
end Pantry
namespace Go.Proofs.Ytdoddnnggamaiaa
open Go.RowKit Pantry

set_option maxHeartbeats 400000 in
theorem same_any (a b : Option Addr) (n m c d : Nat) (l k : List (List UInt8)) (w : World) (hl : l.length = n) (hk : k.length = m) (hn : n ≤ 9223372036854775807)
    (ha : Rd w a (txts l)) (hb : Rd w b (txts k)) :
    Calls Try.prog 21 #[.slice a n c, .slice b m d] w (QRet w (.bool (decide (l = k)))) := by
  by_cases hnm : n = m
  · subst hnm
    have HL := Lib.hid hl
    have HK := Lib.hid hk
    clear hl hk
    go_enter Try.func21, Try.ntmps21
    go_wp2
    go_loopw [5] (fun i wr => ∃ k' : Nat, k' ≤ n ∧ i = .int .i64 k' ∧ l.take k' = k.take k' ∧ ∃ q, wr = w.drewN q) (fun i _ => n - (intOf i).toNat)
    case atStart => exact ⟨0, by omega, rfl, rfl, 0, rfl⟩
    case round =>
      obtain ⟨j, hj, rfl, heq, q, rfl⟩ := hrel
      by_cases hlt : j < n
      · obtain ⟨xl, hxl⟩ : ∃ x, l[j]? = some x := ⟨_, List.getElem?_eq_getElem (by rw [HL.out]; exact hlt)⟩
        obtain ⟨xk, hxk⟩ : ∃ x, k[j]? = some x := ⟨_, List.getElem?_eq_getElem (by rw [HK.out]; exact hlt)⟩
        obtain ⟨x, rfl, hx⟩ := txts_cell ha hxl
        obtain ⟨y, rfl, hy⟩ := txts_cell hb hxk
        unfold txt at hx hy
        have HX := Lib.hid hxl
        have HY := Lib.hid hxk
        clear hxl hxk
        go_wp2
        go_quiet (fail)
        by_cases hx : xl = xk
        · rw [show (xl == xk) = true by simp [hx], Bool.not_true]
          go_wp2
          go_roundw
          case rel => exact ⟨j + 1, by omega, by go_num, take_step (d := []) heq (by rw [HL.out]; exact hlt) (by rw [HK.out]; exact hlt) (by rw [HX.out, HY.out, hx]), _, rfl⟩
          case measure => simp [intOf]; omega
        · rw [show (xl == xk) = false by simp [hx], Bool.not_false]
          go_wp2
          go_ret
          rw [decide_eq_false (fun h : l = k => hx (by have := HX.out; rw [h, HY.out] at this; exact (Option.some.inj this).symm))]
          exact QRet.after (QRet.draws _ rfl)
      · go_wp2
        go_ret
        exact QRet.draws _ (ret_bool (decide_eq_true (take_whole heq HL.out HK.out hlt)).symm)
  · go_enter Try.func21, Try.ntmps21
    go_wp2
    go_ret
    exact QRet.same (ret_bool (by rw [eq_comm, decide_eq_false_iff_not]; rintro rfl; omega))

/-- While it is grown: what is its own now, and what may have been written. -/
def Spoilt (base n m : Nat) (w : World) (row : Option Nat) (v : Value) (wx : World) : Prop :=
  ∃ k : List (List UInt8), wx.ownsRow base 9 1 v (n + m) (txts k) ∧ w.grownBy wx row ∧ ∀ b, v.ownBlock = some b → row = some b ∨ w.heap.size ≤ b

set_option maxHeartbeats 1000000 in
theorem spoil_any (v : Value) (n : Nat) (l : List (List UInt8)) (w : World) (base : Nat) (hn : n ≤ 1099511627776) (hown : w.ownsRow base 9 1 v n (txts l)) (hbase : base ≤ w.heap.size) :
    Calls Try.prog 22 #[v] w (Wrote w v.ownBlock) := by
  have hl : l.length = n := by have := hown.1; rw [txts_length] at this; omega
  obtain ⟨a, c, hv, hrd⟩ := ownsRow_rd hown (txts_one _)
  subst hv
  clear hrd
  have hnil : a = none → n = 0 := by
    intro ha
    rcases hown.2 with ⟨h, h0⟩ | ⟨g, c', cur, h, _⟩
    · exact h0
    · cases h; cases ha
  have hblk : ∀ x, a = some x → ∃ g, x = ⟨g, 0, none⟩ := by
    intro x hx
    rcases hown.2 with ⟨h, h0⟩ | ⟨g, c', cur, h, _⟩
    · cases h; cases hx
    · cases h; cases hx; exact ⟨g, rfl⟩
  have HL := Lib.hid hl
  have HN := Lib.hid hnil
  have HB := Lib.hid hblk
  clear hl hnil hblk
  go_enter Try.func22, Try.ntmps22
  go_wp2
  go_loopw [2] (fun i wr => ∃ (k : Nat) (l' : List (List UInt8)), k ≤ n ∧ i = .int .i64 k ∧ wr.ownsRow base 9 1 (.slice a n c) n (txts l') ∧ w.grownBy wr (Value.slice a n c).ownBlock) (fun i _ => n - (intOf i).toNat)
  case atStart => exact ⟨0, l, by omega, rfl, hown, grownBy_refl _ _⟩
  case round =>
    obtain ⟨k, l', hk, rfl, hown, hg⟩ := hrel
    by_cases hlt : k < n
    · obtain ⟨x, rfl⟩ : ∃ x, a = some x := by
        cases ha : a with
        | none => have := HN.out ha; omega
        | some x => exact ⟨x, rfl⟩
      obtain ⟨g, rfl⟩ := HB.out x rfl
      have hc := hown.cellAt k (by omega)
      have hll : l'.length = n := by have := hown.1; rw [txts_length] at this; omega
      obtain ⟨xk, hxk⟩ : ∃ x, l'[k]? = some x := ⟨_, List.getElem?_eq_getElem (by omega)⟩
      rw [txts_get, hxk, Option.map_some, txt] at hc
      clear hxk
      have hf := hown.frozenAt k
      obtain ⟨hs, hg2⟩ := hown.stored k (txt [63, 33])
      rw [txts_map_set] at hs
      unfold txt at hs hg2
      have hg3 := grownBy_trans hg hg2 (fun b hb => Or.inl hb)
      clear hg2 hll
      go_wp2
      go_roundw
      case rel => exact ⟨k + 1, _, by omega, by go_num, hs, hg3⟩
      case measure => simp [intOf]; omega
    · have hcap : ∀ b, (Value.slice a n c).ownBlock = some b → (Value.slice a n c).ownBlock = some b ∨ w.heap.size ≤ b := fun b hb => Or.inl hb
      go_wp2
      go_loopw [0, 3] (fun v j wx => ∃ m : Nat, m ≤ 40 ∧ j = .int .i64 m ∧ Spoilt base n m w (Value.slice a n c).ownBlock v wx) (fun _ j _ => 40 - (intOf j).toNat)
      case atStart => exact ⟨0, by omega, rfl, l', hown, hg, hcap⟩
      case round =>
        obtain ⟨m, hm, rfl, k', hown, hg, hcap⟩ := hrel
        by_cases hlt2 : m < 40
        · have hgs := hg.size
          go_wp2_with (at_builtin; refine wpl_append1 Try.textsT rfl _ _ rfl base rfl hown #[.string ⟨#[33, 63]⟩] rfl rfl (by simp [Value.oneCell']) (by omega) (Nat.le_trans hbase hgs) ?_; intro v2 w2 hown2 hgrow2 hb2 hfr2)
          have hsp : Spoilt base n (m + 1) w (Value.slice a n c).ownBlock v2 w2 :=
            ⟨k' ++ [[33, 63]], by rw [← txts_snoc]; exact hown2, grownBy_trans hg hgrow2 hcap, fun b hb => by
              rcases hfr2 b hb with h | h
              · exact hcap b h
              · exact Or.inr (Nat.le_trans hgs h)⟩
          clear hown2 hgrow2 hb2 hfr2
          go_roundw
          case rel => exact ⟨m + 1, by omega, by go_num, hsp⟩
          case measure => simp [intOf]; omega
        · go_wp2
          go_end0
          exact ⟨rfl, hg⟩
end Go.Proofs.Ytdoddnnggamaiaa
