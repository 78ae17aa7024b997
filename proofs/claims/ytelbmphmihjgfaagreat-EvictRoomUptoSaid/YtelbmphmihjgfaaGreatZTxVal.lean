/- Values that are texts. -/
import Derived.Test.YtelbmphmihjgfaaGreatZKsPut
set_option linter.unusedVariables false
set_option linter.unusedSimpArgs false
namespace Go.Proofs.YtelbmphmihjgfaaGreat.DEnt
open Go.RowKit Pantry Go.Maps

/-- Block v is the value that is the text t. -/
def TxAt (w : World) (v : Nat) (t : List UInt8) : Prop := w.heap[v]? = some (.cells #[.iface 126 (.string ⟨t.toArray⟩)] 130)
theorem mkText (w : World) (t : List UInt8) : Calls Tryz.prog 25 #[.string ⟨t.toArray⟩] w fun e w' => e = .returned (.pointer (some ⟨w.heap.size, 0, none⟩)) ∧ w' = w.alloc (.cells #[.iface 126 (.string ⟨t.toArray⟩)] 130) := by
  go_enter Tryz.func25, Tryz.ntmps25
  go_wp2_with fail
  go_ret
  exact ⟨rfl, rfl⟩
theorem in_any (w : World) (v : Nat) (t : List UInt8) (h : w.cell? ⟨v, 0, none⟩ = some (.iface 126 (.string ⟨t.toArray⟩))) : Calls Tryz.prog 82 #[.pointer (some ⟨v, 0, none⟩)] w fun e w' => e = .returned (.iface 126 (.string ⟨t.toArray⟩)) ∧ w = w' := by
  go_enter Tryz.func82, Tryz.ntmps82
  go_wp2_with fail
  go_ret
  exact ⟨rfl, rfl⟩
theorem ta_text (t : ByteArray) (w : World) : (Instr.typeAssert (.iface 126 (.string t)) 128 126 true).run Tryz.prog w = .ok (.tuple #[.string t, .bool true]) w := by kernel_rfl
theorem asText_any (w : World) (v : Nat) (t : List UInt8) (h : w.cell? ⟨v, 0, none⟩ = some (.iface 126 (.string ⟨t.toArray⟩))) : Calls Tryz.prog 50 #[.pointer (some ⟨v, 0, none⟩)] w fun e w' => e = .returned (.tuple #[.string ⟨t.toArray⟩, .bool true]) ∧ w = w' := by
  have HI := Lib.hid (in_any w v t h)
  have hta := ta_text
  clear h
  go_enter Tryz.func50, Tryz.ntmps50
  go_wp2_with (go_at_call 82; refine HI.out.mono ?_; rintro e w1 ⟨rfl, rfl⟩)
  go_ret2
  exact ⟨rfl, rfl⟩
theorem m_empty (n : Nat) (s : ByteArray) (w : World) : (method (n + 1) 126 (.string s) "pantry/value.empty").run Tryz.prog w = .ok (172, .string s) w := by kernel_rfl
theorem m_cost (n : Nat) (s : ByteArray) (w : World) : (method (n + 1) 126 (.string s) "Cost").run Tryz.prog w = .ok (171, .string s) w := by kernel_rfl
theorem tEmpty_any (w : World) (s : ByteArray) : Calls Tryz.prog 172 #[.string s] w fun e w' => e = .returned (.bool false) ∧ w = w' := by
  go_enter Tryz.func172, Tryz.ntmps172
  go_wp2_with fail
  go_ret
  exact ⟨rfl, rfl⟩
theorem tCost_any (w : World) (t : List UInt8) : Calls Tryz.prog 171 #[.string ⟨t.toArray⟩] w fun e w' => e = .returned (.int .i64 (t.length : Nat)) ∧ w = w' := by
  go_enter Tryz.func171, Tryz.ntmps171
  go_wp2_with fail
  go_ret
  exact ⟨by simp, rfl⟩
theorem empty_any (w : World) (v : Nat) (t : List UInt8) (h : w.cell? ⟨v, 0, none⟩ = some (.iface 126 (.string ⟨t.toArray⟩))) : Calls Tryz.prog 51 #[.pointer (some ⟨v, 0, none⟩)] w fun e w' => e = .returned (.bool false) ∧ w = w' := by
  have HE := Lib.hid (tEmpty_any w ⟨t.toArray⟩)
  have hme := m_empty
  go_enter Tryz.func51, Tryz.ntmps51
  go_wp2_with (go_at_call 172; refine HE.out.mono ?_; rintro e w1 ⟨rfl, rfl⟩)
  go_ret
  exact ⟨rfl, rfl⟩
theorem cost_any (w : World) (v : Nat) (t : List UInt8) (h : w.cell? ⟨v, 0, none⟩ = some (.iface 126 (.string ⟨t.toArray⟩))) : Calls Tryz.prog 55 #[.pointer (some ⟨v, 0, none⟩)] w fun e w' => e = .returned (.int .i64 (t.length : Nat)) ∧ w = w' := by
  have HE := Lib.hid (tCost_any w t)
  have hmc := m_cost
  go_enter Tryz.func55, Tryz.ntmps55
  go_wp2_with (go_at_call 171; refine HE.out.mono ?_; rintro e w1 ⟨rfl, rfl⟩)
  go_ret
  exact ⟨rfl, rfl⟩
/-- A text is what Put asks. -/
theorem TxAt.ok {w : World} {F : Nat → Prop} {v : Nat} {t : List UInt8} (h : TxAt w v t) (hv : ¬ F v) : VOk w F v t false t.length := by
  have hc : ∀ W, Chg F w W → W.cell? ⟨v, 0, none⟩ = some (.iface 126 (.string ⟨t.toArray⟩)) := fun W hW => cell_of_row _ _ 0 _ _ _ (hW.heap h hv)
  refine ⟨fun W hW => (asText_any W v t (hc W hW)).mono ?_, fun W hW => (empty_any W v t (hc W hW)).mono ?_, fun W hW => (cost_any W v t (hc W hW)).mono ?_⟩
  · rintro e w' ⟨rfl, rfl⟩; exact ⟨⟨_, rfl⟩, Below.refl _ _⟩
  · rintro e w' ⟨rfl, rfl⟩; exact ⟨rfl, Below.refl _ _⟩
  · rintro e w' ⟨rfl, rfl⟩; exact ⟨rfl, Below.refl _ _⟩
end Go.Proofs.YtelbmphmihjgfaaGreat.DEnt
