/- The law's row: what Each goes through, collected. -/
import Derived.Test.YtefoieloakfhfaaZEach1
namespace Pantry
open Go Go.RowKit
/-- Blocks of these types lie as they lay. -/
def KeepsT (T : TypeId → Prop) (A B : World) : Prop := ∀ (k : Nat) (c : Array Value) (t : TypeId) (fr : Nat × Nat), T t → A.heap[k]? = some (Obj.cells c t fr) → B.heap[k]? = some (Obj.cells c t fr)
theorem KeepsT.refl (T : TypeId → Prop) (A : World) : KeepsT T A A := fun _ _ _ _ _ h => h
theorem KeepsT.trans {T : TypeId → Prop} {A B C : World} (h : KeepsT T A B) (k : KeepsT T B C) : KeepsT T A C := fun j c t fr ht hj => k j c t fr ht (h j c t fr ht hj)
theorem KeepsT.alloc {T : TypeId → Prop} (A : World) (o : Obj) : KeepsT T A (A.alloc o) := fun j _ _ _ _ hj => (Below.heap_alloc A o j (Array.getElem?_eq_some_iff.1 hj).1).trans hj
theorem KeepsT.drew {T : TypeId → Prop} (A : World) : KeepsT T A A.drew := fun _ _ _ _ _ hj => hj
theorem KeepsT.grown {T : TypeId → Prop} {A B : World} {row : Option Nat} (h : A.grownBy B row) (hr : ∀ j, row = some j → ∀ c t fr, A.heap[j]? = some (.cells c t fr) → ¬ T t) : KeepsT T A B := fun j c t fr ht hj =>
  (h.block j (Array.getElem?_eq_some_iff.1 hj).1 fun e => hr j e.symm c t fr hj ht).trans hj
theorem KeepsT.putObj {T : TypeId → Prop} {A : World} {l : Nat} {o : Obj} (o' : Obj) (hl : A.heap[l]? = some o) (ho : o.isCells = false) : KeepsT T A (A.putObj l o') :=
  KeepsT.grown (grownBy_putObj' A l o') fun j e c t fr hj => by cases e; rw [hl] at hj; cases hj; cases ho
theorem KeepsT.set {T : TypeId → Prop} {A : World} {B : Nat} {t : TypeId} {v : Value} (h : Boxed A B t v) (ht : ¬ T t) (v' : Value) : KeepsT T A (A.setCell ⟨B, 0, none⟩ v') :=
  KeepsT.grown (grownBy_setCell' A B v') fun j e c t' fr hj => by cases e; rw [show A.heap[B]? = _ from h] at hj; cases hj; exact ht
theorem KeepsT.row {T : TypeId → Prop} {A B : World} {base : Nat} {e : TypeId} {size : Nat} {v : Value} {k : Nat} {xs : List Value} (hrow : A.ownsRow base e size v k xs) (he : ¬ T e) (hg : A.grownBy B v.ownBlock) : KeepsT T A B :=
  KeepsT.grown hg fun j ej c t fr hj => by
    rcases hrow.2 with ⟨rfl, _⟩ | ⟨g, cap, cur, rfl, _, hgb, _⟩
    · cases ej
    · obtain rfl : g = j := by simpa [Value.ownBlock] using ej
      rw [hgb] at hj; cases hj; exact he
/-- Their places are the rising ones. -/
def Rising (l : List (Nat × Txt)) : Prop := ∀ (i : Nat) x, l[i]? = some x → x.1 = i
theorem Rising.nil : Rising [] := fun i x h => by simp at h
theorem Rising.snoc {l : List (Nat × Txt)} (h : Rising l) {x : Nat × Txt} (hx : x.1 = l.length) : Rising (l ++ [x]) := by
  intro i y hi
  by_cases hlt : i < l.length
  · rw [List.getElem?_append_left hlt] at hi; exact h i y hi
  · rw [List.getElem?_append_right (by omega)] at hi
    have h0 : i - l.length = 0 := by
      by_cases e : i - l.length = 0
      · exact e
      · rw [List.getElem?_eq_none (by simp; omega)] at hi; cases hi
    rw [h0] at hi
    have : x = y := by simpa using hi
    subst this; omega
theorem Rising.placed (l : List Txt) : Rising (placed l) := by
  intro i x h
  simp [Pantry.placed, List.getElem?_zipIdx] at h
  obtain ⟨a, _, rfl⟩ := h
  rfl
theorem Rising.not_snoc {l : List (Nat × Txt)} {x : Nat × Txt} (hx : ¬ x.1 = l.length) : ¬ Rising (l ++ [x]) := fun h => hx (h l.length x (by simp))
theorem Rising.of_prefix {l m : List (Nat × Txt)} (h : Rising m) (hp : l <+: m) : Rising l := by
  obtain ⟨t, rfl⟩ := hp
  intro i x hi
  exact h i x ((List.getElem?_append_left (List.getElem?_eq_some_iff.1 hi).1).trans hi)
theorem placed_texts (l : List Txt) : (placed l).map Prod.snd = l := by
  unfold placed
  rw [List.map_map, show (Prod.snd ∘ fun p : Txt × Nat => (p.2, p.1)) = Prod.fst from rfl]
  exact List.zipIdx_map_fst 0 l
end Pantry
namespace Go.Proofs.Ytefoieloakfhfaa
open Go.RowKit Pantry

attribute [local go_sem] Oper.semAt_some

/-- The types of which a deque is made. -/
def dqT (t : TypeId) : Prop := t = 66 ∨ t = 62 ∨ t = 67
theorem DeqAt.keepsT {A B : World} {d : Nat} {v : Value} {gs : List Nat} {cs : List (List Txt)} (h : DeqAt A d v gs cs) (k : KeepsT dqT A B) : DeqAt B d v gs cs := by
  refine ⟨k _ _ _ _ (.inr (.inl rfl)) h.head, ⟨h.row.1, h.row.2.imp id ?_⟩, fun i g c hg hc => k _ _ _ _ (.inl rfl) (h.chunk i g c hg hc), h.nodup, h.notd, h.rowd, h.rowg⟩
  rintro ⟨g, cap, cur, rfl, h1, h2, h3⟩
  exact ⟨g, cap, cur, rfl, h1, k _ _ _ _ (.inr (.inr rfl)) h2, h3⟩
theorem holdsT (cs : List (List Txt)) (W : World) : Holds cs (KeepsT dqT) W (fun d v gs A => DeqAt A d v gs cs) :=
  ⟨fun _ _ _ _ h => h, fun _ _ _ _ h _ _ => h, fun _ _ _ _ _ k h => h.keepsT k, fun _ _ _ _ _ k h => h.chg k fun _ _ e => e⟩
/-- What Each hands back goes through all texts, or through the first ones. -/
theorem each_stops (n : Nat) (hn : 1 ≤ n) (Bn : Nat) (p : Option Addr) (cs : List (List Txt)) (w : World) (Kp : World → World → Prop) (Hd : Nat → Value → List Nat → World → Prop)
    (hH : ∀ W, Below w.heap.size w W → Holds cs Kp W Hd) (hB : w.cell? ⟨Bn, 0, none⟩ = some (.pointer p)) (h : DeqOr w p cs) (hf : Fits cs) :
    SeqStopsK Fence.wide n Try.prog 41 #[.pointer (some ⟨Bn, 0, none⟩)] encs2 Kp (fun ys => ys = placed cs.flatten) (fun pre => pre <+: placed cs.flatten) cs.flatten.length w := fun l J Jx W hW hJ _ hY h0 => by
  have hBl : Bn < w.heap.size := World.block_lt_of_cell? w _ hB
  have hW2 : Chg (fun _ => False) w W := Chg.of_below hW
  refine each1_in n hn l Bn p cs W Kp Hd (hH W hW) ((hW.cell (p := ⟨Bn, 0, none⟩) hBl).trans hB) ?_ hf J Jx hJ hY h0
  exact h.imp id fun ⟨d, v, gs, e, hd⟩ => ⟨d, v, gs, e, hd.chg hW2 fun _ _ e => e⟩
theorem strI : (Try.prog.info? 9).map (fun i => (i.zero, i.size, i.bytes)) = some (some (.string ⟨#[]⟩), 1, 16) := by kernel_rfl

theorem txts_snoc (l : List Txt) (x : Txt) : txts (l ++ [x]) = txts l ++ [.string ⟨x.toArray⟩] := by simp [txts, txt]

set_option maxRecDepth 100000 in
set_option maxHeartbeats 4000000 in
theorem row_any (w : World) (p : Option Addr) (cs : List (List Txt)) (h : DeqOr w p cs) (hf : Fits cs) :
    Calls Try.prog 20 #[.pointer p] w fun e W' => ∃ v, e = .returned (.tuple #[v, .bool true]) ∧ W'.ownsRow w.heap.size 9 1 v cs.flatten.length (txts cs.flatten) ∧ Below w.heap.size w W' := by
  refine (callsIn_wide (n := 3)).1 ?_
  have HE := fun W => Lib.hid (each_any W p)
  have HF := Lib.hid hf
  have HD := Lib.hid h
  have htl := hf.total
  rw [← flatten_length] at htl
  obtain ⟨i0, hi, hz0, hz1, hz2⟩ := info_parts strI
  have HI := Lib.hid hi
  clear hf h
  refine callsIn_of_wp_marks Try.func20 rfl trivial ?_ rfl
  simp only [Try.ntmps20, List.size_toArray, List.length_cons, List.length_nil, Nat.reduceAdd, Nat.reduceSub, Array.replicate_succ, Array.replicate_zero, List.push_toArray, List.append_toArray, List.nil_append, List.cons_append]
  have hnf : ∀ (b : Nat) (W : World), Sem.run Try.prog (binOp BinOp.eql 52 (.func (.func 41) #[] #[.pointer (some ⟨b, 0, none⟩)]) Value.nilFunc) W = .ok (.bool false) W := fun b W => rfl
  gi_wp2_with fail
  refine ⟨trivial, (callsIn_wide.2 (HE _).out).mono ?_⟩
  rintro e w' ⟨rfl, rfl⟩
  gi_wp2_with fail
  obtain ⟨W0, hW0⟩ : ∃ W0, ((((w.alloc (.cells #[.slice none 0 0] 22)).alloc (.cells #[.bool false] 4)).alloc (.cells #[.slice none 0 0] 22)).alloc (.cells #[.pointer p] 24)) = W0 := ⟨_, rfl⟩
  have hB0 : Below w.heap.size w W0 := by
    rw [← hW0]
    exact ((((Below.refl _ w).alloc (Nat.le_refl _) _).alloc (by simp) _).alloc (by simp; omega) _).alloc (by simp; omega) _
  have hb0 : Boxed W0 w.heap.size 22 (.slice none 0 0) := by rw [← hW0]; exact (((Boxed.new w _ _).alloc _).alloc _).alloc _
  have hb1 : Boxed W0 (w.heap.size + 1) 4 (.bool false) := by
    have := Boxed.new (w.alloc (.cells #[.slice none 0 0] 22)) 4 (.bool false)
    rw [World.size_alloc] at this
    rw [← hW0]; exact (this.alloc _).alloc _
  have hb2 : Boxed W0 (w.heap.size + 1 + 1) 22 (.slice none 0 0) := by
    have := Boxed.new ((w.alloc (.cells #[.slice none 0 0] 22)).alloc (.cells #[.bool false] 4)) 22 (.slice none 0 0)
    rw [World.size_alloc, World.size_alloc] at this
    rw [← hW0]; exact this.alloc _
  have hb3 : Boxed W0 (w.heap.size + 1 + 1 + 1) 24 (.pointer p) := by
    have := Boxed.new (((w.alloc (.cells #[.slice none 0 0] 22)).alloc (.cells #[.bool false] 4)).alloc (.cells #[.slice none 0 0] 22)) 24 (.pointer p)
    rw [World.size_alloc, World.size_alloc, World.size_alloc] at this
    rw [← hW0]; exact this
  have hs0 : W0.heap.size = w.heap.size + 1 + 1 + 1 + 1 := by rw [← hW0]; simp
  have hd0 : DeqOr W0 p cs := HD.out.imp id fun ⟨d, v, gs, e, hd⟩ => ⟨d, v, gs, e, hd.chg (Chg.of_below (S := fun _ => False) hB0) fun _ _ e => e⟩
  rw [hW0]
  refine wpIn_rangeFunc_ownG rfl (by omega) (gf := 41) (lb := #[.pointer (some ⟨w.heap.size + 1 + 1 + 1, 0, none⟩)]) rfl trivial (enters_of Try.func41 (by kernel_rfl) rfl)
    (each_stops 2 (by omega) (w.heap.size + 1 + 1 + 1) p cs W0 (KeepsT dqT) (fun d v gs A => DeqAt A d v gs cs) (fun W _ => holdsT cs W) hb3.cell hd0 HF.out) (fun h k => h.trans k) (fun W l o o' _ h1 h2 _ => KeepsT.putObj o' h1 h2) (Below.refl _ _) (fun _ => rfl)
    (fun pre W => Rising pre ∧ Boxed W w.heap.size 22 (.slice none 0 0) ∧ Boxed W (w.heap.size + 1) 4 (.bool false) ∧ (∃ v, Boxed W (w.heap.size + 1 + 1) 22 v ∧ W.ownsRow w.heap.size 9 1 v pre.length (txts (pre.map Prod.snd)) ∧ True) ∧ Below w.heap.size w W)
    (fun c pre _ => c = .ret ∧ ¬ Rising pre)
    ((ownFrom_pure _ Rising).and ((Own.from (boxed_own _ _ _) _).and ((Own.from (boxed_own _ _ _) _).and ((Own.from (holdsRow_own _ _ _ _ _ (fun pre : List (Nat × Txt) => pre.length) (fun pre => txts (pre.map Prod.snd)) (fun _ _ => True)) _).and (ownFrom_below (Nat.le_refl _) (by omega))))))
    (fun c => ownFrom_pure _ (fun pre => c = .ret ∧ ¬ Rising pre))
    ⟨Rising.nil, hb0, hb1, ⟨_, hb2, World.ownsRow_nil _ _ _ _, trivial⟩, hB0⟩
    (fun x => { tmps := #[.pointer p, undef, .pointer (some ⟨w.heap.size, 0, none⟩), .pointer (some ⟨w.heap.size + 1, 0, none⟩), .pointer (some ⟨w.heap.size + 1 + 1, 0, none⟩), .func (.func 41) #[] #[.pointer (some ⟨w.heap.size + 1 + 1 + 1, 0, none⟩)], .int .i64 x.1, .string ⟨x.2.toArray⟩, .pointer p, .func (.func 41) #[] #[.pointer (some ⟨w.heap.size + 1 + 1 + 1, 0, none⟩)], .func (.func 41) #[] #[.pointer (some ⟨w.heap.size + 1 + 1 + 1, 0, none⟩)], .bool false, .func (.func 41) #[] #[.pointer (some ⟨w.heap.size + 1 + 1 + 1, 0, none⟩)], .int .i64 x.1, .string ⟨x.2.toArray⟩, undef, undef, undef, undef, undef, undef, undef, undef, undef], defers := [] }) ?assign ?body ?done ?stop
  case assign =>
    intro l x W K hK
    simp only [encs2]
    gi_wp2
    exact hK
  case body =>
    rintro l pre ⟨i, s⟩ W ⟨hr, hbH, hbB, ⟨v, hv, hrow, -⟩, hB⟩ hlt
    obtain ⟨a, c, rfl, -⟩ := ownsRow_rd hrow (txts_one _)
    have hc := hv.cell
    have hbB' := hbB.cell
    have hbBf := hbB.frozen
    have hbH' := hbH.cell
    have hbHf := hbH.frozen
    have hml : pre.length + 1 ≤ maxLen := by unfold maxLen; omega
    by_cases hx : i = pre.length
    · subst hx
      gi_wp2_with (gi_at_builtin; refine wpListIn_append_own _ rfl _ _ 22 rfl w.heap.size 9 i0 (.string ⟨#[]⟩) 1 16 Try.underlying22 hi hz0 hz1 hz2 rfl (by decide) _ _ _ rfl (hrow.alloc _) ⟨W.heap.size, 0, none⟩ 1 1 [.string ⟨s.toArray⟩] rfl rfl (cell_one_new _ _ _) (by simp [Value.oneCell']) hml (by omega) (by have := hB.size; simp; omega) ?_
                   intro v' w1 hown' hgrow _
                   obtain ⟨g', cap', rfl⟩ := ownsRow_succ hown'
                   obtain ⟨hv1, hv2, hr2, hk2, hb2⟩ := hv.appended (by decide) hrow hB.size (by omega) hown' hgrow
                   have hc1 := hv1.cell
                   have hf1 := hv1.frozen)
      have hkt := ((KeepsT.alloc (T := dqT) W _).trans (KeepsT.row (hrow.alloc _) (by unfold dqT; decide) hgrow)).trans (KeepsT.set hv1 (by unfold dqT; decide) (.slice (some ⟨g', 0, none⟩) (pre.length + 1) cap'))
      have hbH2 := Boxed.other ((hbH.alloc _).kept hgrow (hbH.not_row (by decide) hrow)) (B' := w.heap.size + 1 + 1) (by omega) (.slice (some ⟨g', 0, none⟩) (pre.length + 1) cap')
      have hbB2 := Boxed.other ((hbB.alloc _).kept hgrow (hbB.not_row (by decide) hrow)) (B' := w.heap.size + 1 + 1) (by omega) (.slice (some ⟨g', 0, none⟩) (pre.length + 1) cap')
      refine ⟨hk2.from _, hkt, hr.snoc rfl, hbH2, hbB2, ⟨_, hv2, ?_, trivial⟩, hB.trans hb2⟩
      rw [List.map_append, List.map_singleton, txts_snoc, List.length_append, List.length_singleton]
      exact hr2
    · gi_wp2_with fail
      refine ⟨?_, rfl, Rising.not_snoc hx⟩
      exact ((KeepsOthers.setCell _ _ _).trans (KeepsOthers.setCell _ _ _)).from _
  case done =>
    rintro D ys W hD rfl ⟨-, hbH, hbB, ⟨v, hv, hrow, -⟩, hB⟩ hK
    obtain ⟨a, c, rfl, -⟩ := ownsRow_rd hrow (txts_one _)
    have hc := hv.cell
    have hbB' := hbB.cell
    have hbBf := hbB.frozen
    have hbH' := hbH.cell
    have hbHf := hbH.frozen
    gi_wp2_with fail
    have hK' := ((KeepsOthers.setCell W ⟨w.heap.size, 0, none⟩ (.slice a (placed cs.flatten).length c)).trans (KeepsOthers.setCell _ ⟨w.heap.size + 1, 0, none⟩ (.bool true))).same D _ hK rfl
    have hx0 := (hbH.set (.slice a (placed cs.flatten).length c)).other (B' := w.heap.size + 1) (by omega) (.bool true)
    have hx1 := (hbB.other (B' := w.heap.size) (by omega) (.slice a (placed cs.flatten).length c)).set (.bool true)
    have hx0' := cell_kept hx0.cell (grownBy_putObj' _ D (.deferred none)) (fun r e => by cases e; exact ⟨_, hK', rfl⟩)
    have hx1' := cell_kept hx1.cell (grownBy_putObj' _ D (.deferred none)) (fun r e => by cases e; exact ⟨_, hK', rfl⟩)
    have hrow2 := hrow.kept (grownBy_setCell' W w.heap.size (.slice a (placed cs.flatten).length c)) (.inr (hbH.not_row (by decide) hrow).symm)
    have hrow3 := ownsRow_putObj (hrow2.kept (grownBy_setCell' _ (w.heap.size + 1) (.bool true)) (.inr ((hbB.other (B' := w.heap.size) (by omega) (.slice a (placed cs.flatten).length c)).not_row (by decide) hrow2).symm)) (.deferred none) hK' rfl
    refine ⟨by simp, .inl ⟨_, _, rfl, run_takeDeferred hK', ?_⟩⟩
    refine ⟨.tuple #[.slice a (placed cs.flatten).length c, .bool true], ?_, _, rfl, ?_, ?_⟩
    · simp [results, Try.f20, go_sem, hx0', hx1']
    · rw [placed_texts, placed_length] at hrow3
      rw [placed_length]
      exact hrow3
    · exact ((hB.setCell (p := ⟨w.heap.size, 0, none⟩) (Nat.le_refl _) _).setCell (p := ⟨w.heap.size + 1, 0, none⟩) (Nat.le_succ _) _).trans (belowK_b (w := W0) (by omega) _ D _ _ hD hK' rfl rfl)
  case stop =>
    rintro D c pre W hD hSp ⟨rfl, hn⟩ _
    exact absurd ((Rising.placed _).of_prefix hSp) hn
end Go.Proofs.Ytefoieloakfhfaa
