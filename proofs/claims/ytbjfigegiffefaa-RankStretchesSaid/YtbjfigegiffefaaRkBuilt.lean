/- Ranks and a plain list behind a script. -/
import Derived.Test.YtbjfigegiffefaaRkDone3
import Derived.Laws.Rows
import Derived.Laws.Tables
set_option linter.unusedVariables false
set_option linter.unusedSimpArgs false
namespace Pantry
open Go Go.RowKit
theorem ownsRow_up {w : World} {e : TypeId} {size : Nat} {B : Nat} {v : Value} {n : Nat} {xs : List Value} (h : w.ownsRow 0 e size v n xs) (hB : ∀ k, v.ownBlock = some k → B ≤ k) : w.ownsRow B e size v n xs := by
  refine ⟨h.1, ?_⟩
  rcases h.2 with hn | ⟨g, cap, cur, rfl, h1, r⟩
  · exact .inl hn
  · exact .inr ⟨g, cap, cur, rfl, hB g rfl, r⟩
theorem copied {wr w3 : World} {z cells : Array Value} {t : TypeId} (hw : (wr.alloc (.cells z t)).setRow wr.heap.size cells = w3) : w3.heap[wr.heap.size]? = some (.cells cells t) ∧ w3.heap.size = wr.heap.size + 1 ∧ Below wr.heap.size wr w3 := by
  subst hw
  refine ⟨setRow_heap _ _ _ _ _ _ (heap_alloc_new wr _), by simp [World.setRow], ?_⟩
  exact (((Chg.refl (fun _ => False) wr).alloc _).setRow (fun e => absurd e (Nat.lt_irrefl _)) _).below (Nat.le_refl _) fun _ h => h.elim
end Pantry
namespace Go.Proofs.Ytbjfigegiffefaa
open Go.RowKit Pantry

/-- Ranks and a list of the law's own: the list holds what the ranks hold. -/
structure Twin (w : World) (r : Nat) (v : Value) (l : List Mb) (wr : World) : Prop where
  ex : ∃ S L, Rk wr r S l ∧ (∀ k, S k → w.heap.size ≤ k) ∧ L.Perm l ∧ wr.ownsRow 0 41 2 v L.length (rkCells L) ∧ ∀ k, v.ownBlock = some k → ¬ S k ∧ w.heap.size ≤ k
  under : Below w.heap.size w wr
theorem Twin.below {w : World} {r : Nat} {v : Value} {l : List Mb} {wr w' : World} (h : Twin w r v l wr) (hb : Below wr.heap.size wr w') : Twin w r v l w' := by
  obtain ⟨⟨S, L, h1, h2, h3, h4, h5⟩, h6⟩ := h
  exact ⟨⟨S, L, h1.below hb, h2, h3, ownsRow_belowAll h4 hb, h5⟩, h6.trans (hb.mono h6.size)⟩
theorem Twin.done {w : World} {r : Nat} {v : Value} {l : List Mb} {wr : World} (h : Twin w r v l wr) (o : Stp) (hok : o.Ok) :
    Calls Try.prog 22 #[.pointer (some ⟨r, 0, none⟩), v, .agg o.cells.toArray] wr fun e w' => ∃ v', e = .returned (.tuple #[v', .bool true]) ∧ Twin w r v' (stepL l o) w' := by
  obtain ⟨⟨S, L, h1, h2, h3, h4, h5⟩, h6⟩ := h
  refine (done_any wr r S l L v o h1 h3 h4 (fun k hk => (h5 k hk).1) hok).mono ?_
  rintro e w' ⟨v', rfl, ⟨S', L', q1, q2, q3, q4, q5⟩, q6, q7⟩
  refine ⟨v', rfl, ⟨S', L', q1, fun k hk => (q2 k hk).elim (h2 k) fun hh => Nat.le_trans h6.size hh, q3, q4, fun k hk => ⟨q5 k hk, (q6 k hk).elim (fun hh => (h5 k hh).2) fun hh => Nat.le_trans h6.size hh⟩⟩, h6.trans (q7.below h6.size ?_)⟩
  rintro k (hk | hk)
  · exact h2 k hk
  · exact (h5 k hk).2
theorem Twin.slice {w : World} {r : Nat} {v : Value} {l : List Mb} {wr : World} (h : Twin w r v l wr) : ∃ a c, v = .slice a l.length c := by
  obtain ⟨⟨S, L, h1, h2, h3, h4, h5⟩, h6⟩ := h
  obtain ⟨a, c, rfl, -⟩ := ownsRow_rd h4 (rkCells_one L)
  exact ⟨a, c, by rw [h3.length_eq]⟩
/-- The members behind a script. -/
def runL (ops : List Stp) : List Mb := ops.foldl stepL []
theorem runL_snoc {ops : List Stp} {k : Nat} {o : Stp} (h : ops[k]? = some o) : stepL (runL (ops.take k)) o = runL (ops.take (k + 1)) := by
  obtain ⟨hk, rfl⟩ := List.getElem?_eq_some_iff.1 h
  unfold runL
  rw [List.take_succ_eq_append_getElem hk, List.foldl_append]
  rfl
def BuiltPost (ops : List Stp) (w : World) (e : Ending) (w' : World) : Prop := ∃ r v, e = .returned (.tuple #[.pointer (some ⟨r, 0, none⟩), v, .bool true]) ∧ Twin w r v (runL ops) w'
set_option maxHeartbeats 8000000 in
set_option maxRecDepth 100000 in
theorem built_any (w : World) (seed : Nat) (hs : seed < 18446744073709551616) (a : Option Addr) (n c : Nat) (ops : List Stp) (hl : OpsAt w a n ops) : Calls Try.prog 11 #[.int .u64 seed, .slice a n c] w (BuiltPost ops w) := by
  have HN1 := Lib.hid (Rk.new w seed hs)
  have HL := Lib.hid hl
  have hn := hl.few
  clear hl hs
  have HS9 := Lib.hid (show (Try.prog.info? 52).map (·.size) = some 9 by kernel_rfl)
  go_enter Try.func11, Try.ntmps11
  go_wp2_with (go_at_call 18; refine HN1.out.mono ?_; rintro e w1 ⟨r, S, rfl, hr, hb, hS⟩
               have HT : Hid (Twin w r (.slice none 0 0) (runL (ops.take 0)) w1) := Lib.hid ⟨⟨S, [], hr, hS, List.Perm.refl _, World.ownsRow_nil _ _ _ _, fun k hk => by cases hk⟩, hb⟩
               clear hr hb hS)
  clear HN1
  go_loopw [8, 17] (fun v i wr => ∃ k : Nat, k ≤ n ∧ i = .int .i64 k ∧ Hid (Twin w r v (runL (ops.take k)) wr)) (fun _ i _ => n - (intOf i).toNat)
  case atStart => exact ⟨0, by omega, rfl, HT⟩
  case round =>
    clear HT
    obtain ⟨k, hk, rfl, HT⟩ := hrel
    by_cases hlt : k < n
    · obtain ⟨o, hok⟩ : ∃ o, ops[k]? = some o := ⟨_, List.getElem?_eq_getElem (by rw [HL.out.len]; exact hlt)⟩
      obtain ⟨y, hy, hcells⟩ := (HL.out.keep HT.out.under).cell k _ hok
      subst hy
      have HCL := Lib.hid (show ∀ j u, o.cells[j]? = some u → wr.cell? ((y.add (k * 9)).add j) = some u from fun j u hj => by rw [Addr.add_add]; exact hcells j u hj)
      have HOK := Lib.hid (HL.out.ok _ (List.mem_of_getElem? hok))
      have HRS := Lib.hid (runL_snoc hok)
      have HD := Lib.hid (fun W (hW : Below wr.heap.size wr W) => (HT.out.below hW).done o HOK.out)
      obtain ⟨va, vc, rfl⟩ := HT.out.slice
      clear hok hcells
      go_wp2_with (first
        | (refine wpl_load_at rfl _ _ rfl _ rfl _ _ HCL.out Try.underlying52 rfl HS9.out ?_)
        | (refine wpList_store_row rfl _ _ _ rfl wr.heap.size o.cells.toArray rfl rfl _ _ (heap_alloc_new wr _) HS9.out rfl (cells_one _) ?_
           generalize hw3 : World.setRow _ wr.heap.size o.cells.toArray = w3
           obtain ⟨f1, f2, f3⟩ := copied hw3
           have HF1 := Lib.hid f1
           have HD3 := Lib.hid (HD.out w3 f3)
           clear hw3 f1 f2 f3 HD)
        | (refine wpList_load_row rfl _ _ rfl wr.heap.size rfl _ o.cells.toArray (0, 0) _ HF1.out Try.underlying52 rfl HS9.out ?_)
        | (go_at_call 22; refine HD3.out.mono ?_; clear HD3; rintro e w4 ⟨v', rfl, ht⟩
           rw [HRS.out] at ht
           have HT4 := Lib.hid ht
           clear ht))
      go_roundw
      case rel => exact ⟨k + 1, by omega, by go_num, HT4⟩
      case measure => simp [intOf]; omega
    · obtain rfl : k = n := by omega
      obtain ⟨va, vc, rfl⟩ := HT.out.slice
      have HE : Hid (BuiltPost ops w (.returned (.tuple #[.pointer (some ⟨r, 0, none⟩), .slice va (runL (ops.take k)).length vc, .bool true])) wr) := Lib.hid ⟨r, _, rfl, by have := HT.out; rw [List.take_of_length_le (by rw [HL.out.len]; exact Nat.le_refl _)] at this ⊢; exact this⟩
      go_wp2_with fail
      go_ret3
      exact HE.out
end Go.Proofs.Ytbjfigegiffefaa
