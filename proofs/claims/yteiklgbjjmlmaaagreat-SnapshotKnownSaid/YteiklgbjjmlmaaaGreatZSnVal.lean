
/- Values and stored keys as bytes of a snapshot (plain). -/
import Derived.Test.YteiklgbjjmlmaaaGreatZSnBuf
import Derived.Test.YteiklgbjjmlmaaaGreatZVTold
set_option linter.unusedVariables false
namespace Pantry
open Go Go.RowKit

instance : DecidableEq PD := fun p q => by
  cases p; cases q
  simp only [PD.mk.injEq]
  exact inferInstance
/-- A stored key. -/
structure SE where
  key : List UInt8
  val : PD
  dl : Int
deriving DecidableEq
def fldB (x : Fld) : List UInt8 := textB x.1 ++ textB x.2
def mbB (x : Mb) : List UInt8 := textB x.1 ++ eightB x.2
def valB (p : PD) : List UInt8 :=
  o8 p.kind.toNat :: (if p.kind = 1 then textB p.text else if p.kind = 3 then numB p.pairs.length ++ p.pairs.flatMap fldB
    else if p.kind = 5 then numB p.ranks.length ++ p.ranks.flatMap mbB else if p.kind = 2 ∨ p.kind = 4 then numB p.items.length ++ p.items.flatMap textB else [])
def entB (x : SE) : List UInt8 := textB x.key ++ (numB x.dl.toNat ++ valB x.val)
/-- A value of the form that reading makes. -/
structure Shaped (p : PD) : Prop where
  kind : 1 ≤ p.kind ∧ p.kind ≤ 5
  text : p.kind = 1 → p.text.length ≤ 1048576
  pairs : p.kind = 3 → 1 ≤ p.pairs.length ∧ p.pairs.length ≤ 1048576 ∧ ∀ x ∈ p.pairs, x.1.length ≤ 1048576 ∧ x.2.length ≤ 1048576
  ranks : p.kind = 5 → 1 ≤ p.ranks.length ∧ p.ranks.length ≤ 1048576 ∧ ∀ x ∈ p.ranks, x.1.length ≤ 1048576 ∧ x.2 < 18446744073709551616
  items : p.kind = 2 ∨ p.kind = 4 → 1 ≤ p.items.length ∧ p.items.length ≤ 1048576 ∧ ∀ x ∈ p.items, x.length ≤ 1048576
  noText : p.kind ≠ 1 → p.text = []
  noPairs : p.kind ≠ 3 → p.pairs = []
  noRanks : p.kind ≠ 5 → p.ranks = []
  noItems : p.kind ≠ 2 → p.kind ≠ 4 → p.items = []
def mapR {α β : Type} (f : α → β) (rd : List UInt8 → Rdd α) (b : List UInt8) : Rdd β :=
  match rd b with
  | .error e => .error e
  | .ok (x, r) => .ok (f x, r)
def countR {α : Type} (rd : List UInt8 → Rdd α) : List UInt8 → Rdd (List α) := mapR (fun q => q.2) (seqR (numR 1 1048576) fun n => manyR rd n)
def fldR : List UInt8 → Rdd Fld := seqR textR fun _ => textR
def mbR : List UInt8 → Rdd Mb := seqR textR fun _ => eightR
def kindR (b : List UInt8) : Rdd Nat :=
  match takeR 1 b with
  | .error e => .error e
  | .ok (l, r) => if 1 ≤ (l.headD 0).toNat ∧ (l.headD 0).toNat ≤ 5 then .ok ((l.headD 0).toNat, r) else .error 290
def bodyR (k : Nat) : List UInt8 → Rdd PD :=
  if k = 1 then mapR (fun s => ⟨1, s, [], [], []⟩) textR
  else if k = 3 then mapR (fun l => ⟨3, [], [], l, []⟩) (countR fldR)
  else if k = 5 then mapR (fun l => ⟨5, [], [], [], l⟩) (countR mbR)
  else mapR (fun l => ⟨k, [], l, [], []⟩) (countR textR)
def valR : List UInt8 → Rdd PD := mapR (fun q => q.2) (seqR kindR bodyR)
def entR : List UInt8 → Rdd SE := mapR (fun q => ⟨q.1, q.2.2, q.2.1⟩) (seqR textR fun _ => seqR (numR 0 9007199254740992) fun _ => valR)

theorem count_exact {α : Type} {rd : List UInt8 → Rdd α} {wr : α → List UInt8} {good : α → Prop} (h : Exact rd wr good) :
    Exact (countR rd) (fun l => numB l.length ++ l.flatMap wr) (fun l => 1 ≤ l.length ∧ l.length ≤ 1048576 ∧ ∀ x ∈ l, good x) :=
  (seq_exact (num_exact 1 1048576 (by decide)) (w2 := fun _ l => l.flatMap wr) (g2 := fun n l => l.length = n ∧ ∀ x ∈ l, good x) fun n _ => many_exact h n).map (fun q => q.2) (fun l => (l.length, l))
    (fun q hq => by obtain ⟨n, l⟩ := q; simp only at hq ⊢; rw [hq.2.1]) _ _ _ (fun b => rfl) (fun l hl => rfl) (fun l hl => ⟨⟨⟨hl.1, hl.2.1⟩, rfl, hl.2.2⟩, rfl⟩)
    (fun q hq => by obtain ⟨n, l⟩ := q; simp only at hq ⊢; rw [hq.2.1]; exact ⟨hq.1.1, hq.1.2, hq.2.2⟩)
theorem fld_exact : Exact fldR fldB (fun x => x.1.length ≤ 1048576 ∧ x.2.length ≤ 1048576) := seq_exact text_exact fun _ _ => text_exact
theorem mb_exact : Exact mbR mbB (fun x => x.1.length ≤ 1048576 ∧ x.2 < 18446744073709551616) := seq_exact text_exact fun _ _ => eight_exact
theorem kind_exact : Exact kindR (fun k => [o8 k]) (fun k => 1 ≤ k ∧ k ≤ 5) where
  back k r h := by
    unfold kindR
    have hh : takeR 1 ([o8 k] ++ r) = .ok ([o8 k], r) := takeR_app' (n := 1) (l := [o8 k]) rfl r
    rw [hh]
    have : (o8 k).toNat = k := by rw [o8_nat]; omega
    simp [this, h.1, h.2]
  only b k r h := by
    unfold kindR at h
    cases hr : takeR 1 b with
    | error e => rw [hr] at h; cases h
    | ok q =>
      obtain ⟨l, r'⟩ := q
      rw [hr] at h
      simp only at h
      split at h
      · rename_i hk
        cases h
        obtain ⟨h1, rfl⟩ := takeR_only hr
        obtain ⟨c, rfl⟩ : ∃ c, l = [c] := List.length_eq_one_iff.1 h1
        refine ⟨hk, ?_⟩
        simp only [List.headD_cons, o8_of]
      · cases h
  short k h j hj := by
    unfold kindR
    rw [takeR_short (by rw [List.length_take]; simp at hj ⊢; omega)]
theorem body_exact (k : Nat) (hk : 1 ≤ k ∧ k ≤ 5) : Exact (bodyR k) (fun p => (valB p).tail) (fun p => Shaped p ∧ p.kind = k) := by
  have hs : k = 1 ∨ k = 3 ∨ k = 5 ∨ (k = 2 ∨ k = 4) := by omega
  rcases hs with rfl | rfl | rfl | hs
  · refine text_exact.map (fun s => (⟨1, s, [], [], []⟩ : PD)) (fun p => p.text) (fun _ _ => rfl) _ _ _ (fun b => rfl) (fun p hp => ?_) (fun p hp => ⟨hp.1.text hp.2, ?_⟩) (fun s hs => ⟨⟨by simp, fun _ => hs, by simp, by simp, by simp, by simp, by simp, by simp, by simp⟩, rfl⟩)
    · have : p.kind = 1 := hp.2
      simp [valB, this]
    · obtain ⟨h, h2⟩ := hp
      have h2 : p.kind = 1 := h2
      obtain ⟨kd, t, i, f, r⟩ := p
      simp only at h2
      subst h2
      have a1 := h.noPairs (by simp)
      have a2 := h.noRanks (by simp)
      have a3 := h.noItems (by simp) (by simp)
      simp only at a1 a2 a3
      subst a1 a2 a3
      rfl
  · refine (count_exact fld_exact).map (fun l => (⟨3, [], [], l, []⟩ : PD)) (fun p => p.pairs) (fun _ _ => rfl) _ _ _ (fun b => rfl) (fun p hp => ?_) (fun p hp => ⟨hp.1.pairs hp.2, ?_⟩) (fun s hs => ⟨⟨by simp, by simp, fun _ => hs, by simp, by simp, by simp, by simp, by simp, by simp⟩, rfl⟩)
    · have : p.kind = 3 := hp.2
      simp [valB, this]
    · obtain ⟨h, h2⟩ := hp
      have h2 : p.kind = 3 := h2
      obtain ⟨kd, t, i, f, r⟩ := p
      simp only at h2
      subst h2
      have a1 := h.noText (by simp)
      have a2 := h.noRanks (by simp)
      have a3 := h.noItems (by simp) (by simp)
      simp only at a1 a2 a3
      subst a1 a2 a3
      rfl
  · refine (count_exact mb_exact).map (fun l => (⟨5, [], [], [], l⟩ : PD)) (fun p => p.ranks) (fun _ _ => rfl) _ _ _ (fun b => rfl) (fun p hp => ?_) (fun p hp => ⟨hp.1.ranks hp.2, ?_⟩) (fun s hs => ⟨⟨by simp, by simp, by simp, fun _ => hs, by simp, by simp, by simp, by simp, by simp⟩, rfl⟩)
    · have : p.kind = 5 := hp.2
      simp [valB, this]
    · obtain ⟨h, h2⟩ := hp
      have h2 : p.kind = 5 := h2
      obtain ⟨kd, t, i, f, r⟩ := p
      simp only at h2
      subst h2
      have a1 := h.noText (by simp)
      have a2 := h.noPairs (by simp)
      have a3 := h.noItems (by simp) (by simp)
      simp only at a1 a2 a3
      subst a1 a2 a3
      rfl
  · have e : bodyR k = mapR (fun l => (⟨k, [], l, [], []⟩ : PD)) (countR textR) := by
      unfold bodyR
      rw [if_neg (by omega), if_neg (by omega), if_neg (by omega)]
    rw [e]
    refine (count_exact text_exact).map (fun l => (⟨k, [], l, [], []⟩ : PD)) (fun p => p.items) (fun _ _ => rfl) _ _ _ (fun b => rfl) (fun p hp => ?_) (fun p hp => ⟨hp.1.items (by omega), ?_⟩) (fun s hs' => ⟨⟨by simp only; omega, fun h => by simp only at h; omega, fun h => by simp only at h; omega, fun h => by simp only at h; omega, fun _ => hs', by simp, by simp, by simp, fun h h' => by simp only at h h'; omega⟩, rfl⟩)
    · have h2 : p.kind = k := hp.2
      have e1 : ¬ p.kind = 1 := by omega
      have e2 : ¬ p.kind = 3 := by omega
      have e3 : ¬ p.kind = 5 := by omega
      have e4 : p.kind = 2 ∨ p.kind = 4 := by omega
      simp only [valB, if_neg e1, if_neg e2, if_neg e3, if_pos e4, List.tail_cons]
    · obtain ⟨h, h2⟩ := hp
      have h2 : p.kind = k := h2
      have a1 := h.noText (by omega)
      have a2 := h.noPairs (by omega)
      have a3 := h.noRanks (by omega)
      obtain ⟨kd, t, i, f, r⟩ := p
      simp only at h2 a1 a2 a3
      subst a1 a2 a3 h2
      rfl
theorem val_exact : Exact valR valB Shaped :=
  (seq_exact kind_exact fun k hk => body_exact k hk).map (fun q => q.2) (fun p => (p.kind.toNat, p)) (fun q hq => by obtain ⟨k, p⟩ := q; simp only at hq ⊢; rw [hq.2.2]; rfl) _ _ _ (fun b => rfl) (fun p hp => rfl)
    (fun p hp => by
      have := hp.kind
      refine ⟨⟨by simp only; omega, hp, by simp only; omega⟩, rfl⟩) (fun q hq => hq.2.1)
theorem ent_exact : Exact entR entB (fun x => x.key.length ≤ 1048576 ∧ (0 ≤ x.dl ∧ x.dl ≤ 9007199254740992) ∧ Shaped x.val) :=
  (seq_exact text_exact fun _ _ => seq_exact (num_exact 0 9007199254740992 (by decide)) fun _ _ => val_exact).map (fun q => (⟨q.1, q.2.2, q.2.1⟩ : SE)) (fun x => (x.key, x.dl.toNat, x.val)) (fun q hq => rfl) _ _ _ (fun b => rfl) (fun x hx => rfl)
    (fun x hx => ⟨⟨hx.1, ⟨Nat.zero_le _, by simp only; omega⟩, hx.2.2⟩, by
      obtain ⟨key, val, dl⟩ := x
      have h0 : 0 ≤ dl := hx.2.1.1
      simp only [SE.mk.injEq, true_and]
      omega⟩)
    (fun q hq => ⟨hq.1, ⟨by simp only; omega, by simp only; have := hq.2.1.2; omega⟩, hq.2.2⟩)
end Pantry


/- Saving and loading as plain functions; what is right; there and back (plain). -/
set_option linter.unusedVariables false
namespace Pantry
open Go Go.RowKit

/-- What lies in a value lies in order. -/
def sortedP (p : PD) : Bool :=
  if p.kind = 3 then decide (p.pairs.Pairwise fun x y => cmpB x.1 y.1 < 0) else if p.kind = 4 then decide (p.items.Pairwise fun x y => cmpB x y < 0)
  else if p.kind = 5 then decide (p.ranks.Pairwise fun x y => cmpR x y < 0) else true
def rightP (p : PD) : Bool := decide (wrongP p = 0) && !emptyP p && sortedP p
def followsP (acc : List SE) (x : SE) : Bool :=
  (match acc.getLast? with | none => true | some y => decide (cmpB y.key x.key < 0)) && decide (x.key.length ≤ 1048576) && decide (0 ≤ x.dl) && decide (x.dl ≤ 9007199254740992) && rightP x.val
/-- May these be saved, behind those? -/
def rightFrom (acc : List SE) : List SE → Bool
  | [] => true
  | x :: l => followsP acc x && rightFrom (acc ++ [x]) l
def headB : List UInt8 := [112, 97, 110, 116, 114, 121, 0, 1]
def sumB (l : List UInt8) : Nat := Crc.sum (l.map UInt8.toNat)
def bodyB (now : Nat) (l : List SE) : List UInt8 := headB ++ (numB now ++ (numB l.length ++ l.flatMap entB))
def saveR (now : Int) (l : List SE) : Except Int (List UInt8) :=
  if now < 0 ∨ 9007199254740992 < now then .error 3
  else if rightFrom [] l = false then .error 290
  else if 16777216 < (bodyB now.toNat l).length + 8 then .error 2
  else .ok (bodyB now.toNat l ++ eightB (sumB (bodyB now.toNat l)))
def headR : List UInt8 → List UInt8 → Rdd Unit
  | [], b => .ok ((), b)
  | _ :: _, [] => .error 5
  | h :: hs, c :: b => if c = h then headR hs b else .error 290
def entsR : Nat → List SE → List UInt8 → Rdd (List SE)
  | 0, acc, b => .ok (acc, b)
  | n + 1, acc, b => match entR b with
    | .error e => .error e
    | .ok (x, r) => if followsP acc x = true then entsR n (acc ++ [x]) r else .error 290
/-- The end: the sum, and nothing behind it. -/
def endR (now : Nat) (l : List SE) (b r : List UInt8) : Except Int (Nat × List SE) :=
  match eightR r with
  | .error e => .error e
  | .ok (u, r') => if r' ≠ [] then .error 290 else if u ≠ sumB (b.take (b.length - r.length)) then .error 291 else .ok (now, l)
def partR : List UInt8 → Rdd (Nat × List SE) :=
  mapR (fun q => (q.2.1, q.2.2.2)) (seqR (headR headB) fun _ => seqR (numR 0 9007199254740992) fun _ => seqR (numR 0 9223372036854775807) fun n => entsR n [])
def loadR (b : List UInt8) : Except Int (Nat × List SE) :=
  if 16777216 < b.length then .error 2 else
  match partR b with
  | .error e => .error e
  | .ok (q, r) => endR q.1 q.2 b r

theorem crc_lt (l : List UInt8) : sumB l < 18446744073709551616 := by
  have h := Crc.run_lt (l.map UInt8.toNat) (fun c hc => by obtain ⟨x, -, rfl⟩ := List.mem_map.1 hc; exact x.toNat_lt)
  exact Crc.xor_lt (by decide) h

theorem head_exact : ∀ (hs : List UInt8), Exact (headR hs) (fun _ => hs) (fun _ => True)
  | [] => ⟨fun x r _ => rfl, fun b x r h => (by cases h; exact ⟨trivial, rfl⟩), fun x _ k hk => (by simp at hk)⟩
  | c :: hs => {
    back := fun x r _ => by
      show (if c = c then headR hs (hs ++ r) else .error 290) = _
      rw [if_pos rfl, (head_exact hs).back () r trivial]
    only := fun b x r h => by
      cases b with
      | nil => simp [headR] at h
      | cons d b =>
        unfold headR at h
        split at h
        · rename_i hd
          obtain ⟨-, hb⟩ := (head_exact hs).only b x r h
          subst hd
          exact ⟨trivial, by rw [hb]; rfl⟩
        · cases h
    short := fun x _ k hk => by
      cases k with
      | zero => rfl
      | succ k =>
        show (if c = c then headR hs (hs.take k) else .error 290) = _
        rw [if_pos rfl, (head_exact hs).short () trivial k (by simpa using hk)] }

theorem rightP_shaped {p : PD} (h : rightP p = true) (h64 : ∀ x ∈ p.ranks, x.2 < 18446744073709551616) : Shaped p := by
  unfold rightP at h
  simp only [Bool.and_eq_true, decide_eq_true_eq, Bool.not_eq_true'] at h
  obtain ⟨⟨h1, h2⟩, -⟩ := h
  have hf := wrongP_zero h1
  have hfew := hf.few
  unfold emptyP at h2
  simp only [decide_eq_false_iff_not, not_and] at h2
  have hn : p.kind ≠ 1 → 1 ≤ p.items.length + p.pairs.length + p.ranks.length := fun hk => by have := h2 hk; omega
  have n1 : p.kind ≠ 2 → p.kind ≠ 4 → p.items.length = 0 := fun a b => by rw [hf.noItems a b]; rfl
  have n2 : p.kind ≠ 3 → p.pairs.length = 0 := fun a => by rw [hf.noPairs a]; rfl
  have n3 : p.kind ≠ 5 → p.ranks.length = 0 := fun a => by rw [hf.noRanks a]; rfl
  refine ⟨hf.kind, fun _ => hf.text, fun hk => ⟨?_, hfew.2.1, hf.flds⟩, fun hk => ⟨?_, hfew.2.2, fun x hx => ⟨hf.mems x hx, h64 x hx⟩⟩, fun hk => ⟨?_, hfew.1, hf.items⟩, hf.noText, hf.noPairs, hf.noRanks, hf.noItems⟩
  · have := hn (by omega); have := n1 (by omega) (by omega); have := n3 (by omega); omega
  · have := hn (by omega); have := n1 (by omega) (by omega); have := n2 (by omega); omega
  · have := hn (by omega); have := n2 (by omega); have := n3 (by omega); omega
/-- Scores of 64 bits. -/
def Bits64 (l : List SE) : Prop := ∀ x ∈ l, ∀ y ∈ x.val.ranks, y.2 < 18446744073709551616
theorem follows_good {acc : List SE} {x : SE} (h : followsP acc x = true) (h64 : ∀ y ∈ x.val.ranks, y.2 < 18446744073709551616) : x.key.length ≤ 1048576 ∧ (0 ≤ x.dl ∧ x.dl ≤ 9007199254740992) ∧ Shaped x.val := by
  unfold followsP at h
  simp only [Bool.and_eq_true, decide_eq_true_eq] at h
  exact ⟨h.1.1.1.2, ⟨h.1.1.2, h.1.2⟩, rightP_shaped h.2 h64⟩
theorem ents_back : ∀ (l acc : List SE) (r : List UInt8), rightFrom acc l = true → Bits64 l → entsR l.length acc (l.flatMap entB ++ r) = .ok (acc ++ l, r)
  | [], acc, r, h, h64 => by simp [entsR]
  | x :: l, acc, r, h, h64 => by
    simp only [rightFrom, Bool.and_eq_true] at h
    simp only [List.length_cons, entsR, List.flatMap_cons, List.append_assoc]
    rw [ent_exact.back x _ (follows_good h.1 (h64 x List.mem_cons_self))]
    simp only
    rw [if_pos h.1, ents_back l (acc ++ [x]) r h.2 fun y hy => h64 y (List.mem_cons_of_mem _ hy)]
    simp
theorem ents_only : ∀ (n : Nat) (acc : List SE) (b : List UInt8) (m : List SE) (r : List UInt8), entsR n acc b = .ok (m, r) → ∃ l, m = acc ++ l ∧ l.length = n ∧ rightFrom acc l = true ∧ Bits64 l ∧ b = l.flatMap entB ++ r
  | 0, acc, b, m, r, h => by
    cases h
    exact ⟨[], by simp, rfl, rfl, fun x hx => (by cases hx), rfl⟩
  | n + 1, acc, b, m, r, h => by
    unfold entsR at h
    cases hq : entR b with
    | error e => rw [hq] at h; cases h
    | ok q =>
      obtain ⟨x, r'⟩ := q
      rw [hq] at h
      simp only at h
      split at h
      · rename_i hf
        obtain ⟨hg, rfl⟩ := ent_exact.only b x r' hq
        obtain ⟨l, rfl, rfl, h3, h4, rfl⟩ := ents_only n (acc ++ [x]) r' m r h
        refine ⟨x :: l, by simp, rfl, by simp [rightFrom, hf, h3], fun y hy => ?_, by simp⟩
        rcases List.mem_cons.1 hy with rfl | hy
        · intro z hz
          by_cases hk : y.val.kind = 5
          · exact ((hg.2.2.ranks hk).2.2 z hz).2
          · rw [hg.2.2.noRanks hk] at hz; cases hz
        · exact h4 y hy
      · cases h
theorem ents_short : ∀ (l acc : List SE) (k : Nat), rightFrom acc l = true → Bits64 l → k < (l.flatMap entB).length → entsR l.length acc ((l.flatMap entB).take k) = .error 5
  | [], acc, k, h, h64, hk => by simp at hk
  | x :: l, acc, k, h, h64, hk => by
    simp only [rightFrom, Bool.and_eq_true] at h
    have hg := follows_good h.1 (h64 x List.mem_cons_self)
    simp only [List.length_cons, entsR, List.flatMap_cons, List.length_append] at hk ⊢
    by_cases h1 : k < (entB x).length
    · rw [take_in h1, ent_exact.short x hg k h1]
    · rw [take_cut (by omega), ent_exact.back x _ hg]
      simp only
      rw [if_pos h.1, ents_short l (acc ++ [x]) _ h.2 (fun y hy => h64 y (List.mem_cons_of_mem _ hy)) (by omega)]
theorem ents_exact (n : Nat) : Exact (entsR n []) (fun l => l.flatMap entB) (fun l => l.length = n ∧ rightFrom [] l = true ∧ Bits64 l) where
  back l r h := by
    obtain ⟨rfl, h1, h2⟩ := h
    rw [ents_back l [] r h1 h2]; rfl
  only b l r h := by
    obtain ⟨l', rfl, h2, h3, h4, h5⟩ := ents_only n [] b l r h
    exact ⟨⟨h2, h3, h4⟩, h5⟩
  short l h k hk := by
    obtain ⟨rfl, h1, h2⟩ := h
    exact ents_short l [] k h1 h2 hk
/-- All ahead of the sum. -/
theorem part_exact : Exact partR (fun q => bodyB q.1 q.2) (fun q => q.1 ≤ 9007199254740992 ∧ q.2.length ≤ 9223372036854775807 ∧ rightFrom [] q.2 = true ∧ Bits64 q.2) :=
  (seq_exact (head_exact headB) fun _ _ => seq_exact (num_exact 0 9007199254740992 (by decide)) fun _ _ => seq_exact (num_exact 0 9223372036854775807 (by decide)) fun n _ => ents_exact n).map
    (fun q => (q.2.1, q.2.2.2)) (fun q => ((), q.1, q.2.length, q.2)) (fun q hq => by
      obtain ⟨u, a, n, l⟩ := q
      simp only at hq ⊢
      rw [hq.2.2.2.1])
    _ _ _ (fun b => rfl) (fun q hq => rfl) (fun q hq => ⟨⟨trivial, ⟨Nat.zero_le _, hq.1⟩, ⟨Nat.zero_le _, hq.2.1⟩, rfl, hq.2.2⟩, rfl⟩)
    (fun q hq => by
      obtain ⟨u, a, n, l⟩ := q
      simp only at hq ⊢
      obtain ⟨-, h1, h2, h3, h4⟩ := hq
      exact ⟨h1.2, by rw [h3]; exact h2.2, h4⟩)
theorem loadR_save {now : Nat} {l : List SE} (h1 : now ≤ 9007199254740992) (h2 : rightFrom [] l = true) (h3 : Bits64 l) (h4 : (bodyB now l).length + 8 ≤ 16777216) :
    loadR (bodyB now l ++ eightB (sumB (bodyB now l))) = .ok (now, l) := by
  have hlen : l.length ≤ 9223372036854775807 := by
    have : l.length ≤ (l.flatMap entB).length := by
      clear h2 h3 h4
      induction l with
      | nil => simp
      | cons x l ih =>
        have : 1 ≤ (entB x).length := by
          unfold entB valB
          simp only [List.length_append, List.length_cons]; omega
        simp only [List.flatMap_cons, List.length_append, List.length_cons]; omega
    unfold bodyB at h4
    simp only [List.length_append] at h4
    omega
  unfold loadR
  rw [if_neg (by rw [List.length_append, eightB_len]; omega), part_exact.back (now, l) _ ⟨h1, hlen, h2, h3⟩]
  simp only [endR]
  have h8 := eight_exact.back (sumB (bodyB now l)) [] (crc_lt _)
  rw [List.append_nil] at h8
  rw [h8]
  simp only [List.length_append, Nat.add_sub_cancel, List.take_left' rfl, ne_eq, not_true_eq_false, if_false]
theorem saveR_ok {now : Int} {l : List SE} {b : List UInt8} (h : saveR now l = .ok b) : (0 ≤ now ∧ now ≤ 9007199254740992) ∧ rightFrom [] l = true ∧ (bodyB now.toNat l).length + 8 ≤ 16777216 ∧ b = bodyB now.toNat l ++ eightB (sumB (bodyB now.toNat l)) := by
  unfold saveR at h
  split at h
  · cases h
  · rename_i h1
    split at h
    · cases h
    · rename_i h2
      split at h
      · cases h
      · rename_i h3
        cases h
        exact ⟨by omega, by simpa using h2, by omega, rfl⟩
/-- There and back. -/
theorem save_load {now : Int} {l : List SE} {b : List UInt8} (h : saveR now l = .ok b) (h64 : Bits64 l) : loadR b = .ok (now.toNat, l) := by
  obtain ⟨h1, h2, h3, rfl⟩ := saveR_ok h
  exact loadR_save (by omega) h2 h64 h3
end Pantry


/- Bits turned within 64 beside one another are known by the sum (plain); the errors of loading. -/
set_option linter.unusedVariables false
namespace Pantry
open Go Go.RowKit
namespace Crc
end Crc
end Pantry
