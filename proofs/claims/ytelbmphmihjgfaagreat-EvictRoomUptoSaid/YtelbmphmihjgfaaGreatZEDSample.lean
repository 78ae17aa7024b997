/- Sample: a key for a drawn number. -/
import Derived.Test.YtelbmphmihjgfaaGreatZEEAll
set_option linter.unusedVariables false
set_option linter.unusedSimpArgs false
namespace Go.Proofs.YtelbmphmihjgfaaGreat.DEnt
open Go.RowKit Pantry

/-- The entry that a number means. -/
def SampIs (D : Dc) (r : Nat) (x : DE) : Prop :=
  ∃ s c, (∀ j, j < s → (Dc.heads D)[(r % (Dc.heads D).length + j) % (Dc.heads D).length]? = some []) ∧ s < (Dc.heads D).length ∧ (Dc.heads D)[(r % (Dc.heads D).length + s) % (Dc.heads D).length]? = some c ∧ c[r / (Dc.heads D).length % c.length]? = some x
theorem SampIs.mem {D : Dc} {r : Nat} {x : DE} (hw : D.Wf) (h : SampIs D r x) : x ∈ D.ents := by
  obtain ⟨s, c, -, -, h1, h2⟩ := h
  rw [← heads_flat hw]
  exact List.mem_flatten.2 ⟨c, List.mem_of_getElem? h1, List.mem_of_getElem? h2⟩
def SampPost (D : Dc) (r : Nat) (w : World) (e : Ending) (w' : World) : Prop := (∃ x, SampIs D r x ∧ e = .returned (.tuple #[.string ⟨x.key.toArray⟩, .bool true])) ∧ ∃ q, w' = w.drewN q
theorem sample_nil (w : World) (r : Nat) : Calls Tryz.prog 67 #[.pointer none, .int .u64 r] w fun e w' => e = .returned (.tuple #[.string ⟨#[]⟩, .bool false]) ∧ w = w' := by
  go_enter Tryz.func67, Tryz.ntmps67
  go_wp2_with fail
  go_ret2
  exact ⟨rfl, rfl⟩
theorem sample_none (w : World) (d r : Nat) (D : Dc) (h : DictAt w d D) (hn : D.ents = []) : Calls Tryz.prog 67 #[.pointer (some ⟨d, 0, none⟩), .int .u64 r] w fun e w' => e = .returned (.tuple #[.string ⟨#[]⟩, .bool false]) ∧ w = w' := by
  obtain ⟨⟨-, -, -, -, c4⟩, -⟩ := five h.head
  rw [hn] at c4
  have c4' : w.cell? ⟨d, 4, none⟩ = some (.int .i64 0) := c4
  clear h hn c4
  go_enter Tryz.func67, Tryz.ntmps67
  go_wp2_with fail
  go_ret2
  exact ⟨rfl, rfl⟩
theorem heads_ne {D : Dc} (hw : D.Wf) (hne : D.ents ≠ []) : D.T ≠ [] ∧ D.pos < D.T.length := by
  have hT : D.T ≠ [] := fun e => by
    have hY : D.Y = [] := by
      cases hy : D.Y with
      | nil => rfl
      | cons c l =>
        have := hw.moves (by rw [hy]; simp)
        rw [e] at this
        simp at this
    exact hne (by simp [Dc.ents, e, hY])
  refine ⟨hT, ?_⟩
  by_cases hY : D.Y = []
  · rw [hw.still hY]; exact List.length_pos_iff.2 hT
  · exact hw.moves hY
/-- The cell of a bucket's head. -/
theorem head_cell {w : World} {d : Nat} {D : Dc} (h : DictAt w d D) {i : Nat} {c : List DE} (hi : (Dc.heads D)[i]? = some c) (hp : D.pos < D.T.length) :
    ChainAt w c ∧ ((i < D.T.length - D.pos ∧ w.cell? ⟨D.bo, D.pos + i, none⟩ = some (ptrOf c)) ∨ (D.T.length - D.pos ≤ i ∧ D.Y ≠ [] ∧ i - (D.T.length - D.pos) < D.Y.length ∧ w.cell? ⟨D.bn, i - (D.T.length - D.pos), none⟩ = some (ptrOf c))) := by
  unfold Dc.heads at hi
  rw [List.getElem?_append] at hi
  rw [List.length_drop] at hi
  split at hi
  · rename_i hlt
    rw [List.getElem?_drop] at hi
    exact ⟨h.chT c (List.mem_of_getElem? hi), .inl ⟨hlt, h.old.cell hi⟩⟩
  · rename_i hge
    have hl := (List.getElem?_eq_some_iff.1 hi).1
    exact ⟨h.chY c (List.mem_of_getElem? hi), .inr ⟨by omega, by rintro e; rw [e] at hl; simp at hl, hl, h.young.cell hi⟩⟩
theorem ChainAt.at {w : World} {c : List DE} (h : ChainAt w c) {k : Nat} {e : DE} (hk : c[k]? = some e) : w.cell? ⟨e.b, 0, none⟩ = some (.string ⟨e.key.toArray⟩) ∧ w.cell? ⟨e.b, 2, none⟩ = some (ptrOf (c.drop (k + 1))) ∧ ptrA (c.drop k) = some ⟨e.b, 0, none⟩ := by
  have hd := h.drop k
  have e1 : c.drop k = e :: c.drop (k + 1) := by
    have hl := (List.getElem?_eq_some_iff.1 hk)
    obtain ⟨hl, rfl⟩ := hl
    exact List.drop_eq_getElem_cons hl
  rw [e1] at hd ⊢
  obtain ⟨⟨c0, -, c2⟩, -⟩ := three hd.1
  exact ⟨c0, c2, rfl⟩
theorem drop_all {c : List DE} {k : Nat} (h : c.length ≤ k) : ptrA (c.drop k) = none := by rw [List.drop_eq_nil_of_le h]; rfl
set_option maxRecDepth 100000 in
set_option maxHeartbeats 4000000 in
theorem sample_some (w : World) (d r : Nat) (D : Dc) (h : DictAt w d D) (hw : D.Wf) (hne : D.ents ≠ []) (hr : r < 18446744073709551616) : Calls Tryz.prog 67 #[.pointer (some ⟨d, 0, none⟩), .int .u64 r] w (SampPost D r w) := by
  obtain ⟨hT, hpos⟩ := heads_ne hw hne
  obtain ⟨⟨-, c1, c2, c3, c4⟩, -⟩ := five h.head
  have hfT := h.old.few
  have hfY := h.young.few
  have hn4 : 0 < D.ents.length := List.length_pos_iff.2 hne
  have hn5 : ¬ D.ents.length = 0 := by omega
  rw [tabV_some hT] at c1
  have hcl : ∀ c ∈ Dc.heads D, c.length ≤ 1099511627776 := fun c hc => by
    have := hw.few
    rw [← heads_flat hw] at this
    exact Nat.le_trans (List.sublist_flatten_of_mem hc).length_le this
  have hsome : ∃ c ∈ Dc.heads D, c ≠ [] := by
    apply Classical.byContradiction
    intro hno
    apply hne
    rw [← heads_flat hw]
    apply List.flatten_eq_nil_iff.2
    intro c hc
    exact Classical.byContradiction fun hc2 => hno ⟨c, hc, hc2⟩
  have hlen : (Dc.heads D).length = (D.T.length - D.pos) + D.Y.length := by unfold Dc.heads; rw [List.length_append, List.length_drop]
  have HH : Hid (∀ i c, (Dc.heads D)[i]? = some c → ChainAt w c ∧ ((i < D.T.length - D.pos ∧ w.cell? ⟨D.bo, D.pos + i, none⟩ = some (ptrOf c)) ∨ (D.T.length - D.pos ≤ i ∧ D.Y ≠ [] ∧ i - (D.T.length - D.pos) < D.Y.length ∧ w.cell? ⟨D.bn, i - (D.T.length - D.pos), none⟩ = some (ptrOf c)))) := Lib.hid fun i c hi => head_cell h hi hpos
  have HCL := Lib.hid hcl
  have HSM := Lib.hid hsome
  obtain ⟨yp, hyv, hyc⟩ := h.young.row
  rw [hyv] at c2
  have HYP : Hid (D.Y ≠ [] → yp = some ⟨D.bn, 0, none⟩) := Lib.hid fun hne => by rw [tabV_some hne] at hyv; injection hyv with e; exact e.symm
  obtain ⟨H, hH⟩ : ∃ H, Dc.heads D = H := ⟨_, rfl⟩
  have HP : Hid (∀ s c x, (∀ j, j < s → H[(r % H.length + j) % H.length]? = some []) → s < H.length → H[(r % H.length + s) % H.length]? = some c → c[r / H.length % c.length]? = some x → ∀ q, SampPost D r w (.returned (.tuple #[.string ⟨x.key.toArray⟩, .bool true])) (w.drewN q)) := Lib.hid (by
    intro s c x h1 h2 h3 h4 q
    subst hH
    exact ⟨⟨x, ⟨s, c, h1, h2, h3, h4⟩, rfl⟩, q, rfl⟩)
  rw [hH] at hlen HH HCL HSM
  obtain ⟨p, hp⟩ : ∃ p, D.pos = p := ⟨_, rfl⟩
  obtain ⟨n, hn⟩ : ∃ n, D.T.length = n := ⟨_, rfl⟩
  obtain ⟨n2, hn2⟩ : ∃ n, D.Y.length = n := ⟨_, rfl⟩
  obtain ⟨m, hm⟩ : ∃ m, D.ents.length = m := ⟨_, rfl⟩
  obtain ⟨bo, hbo⟩ : ∃ m, D.bo = m := ⟨_, rfl⟩
  rw [hp] at hpos c3 HH hlen
  rw [hn] at hpos c1 HH hlen hfT
  rw [hn2] at HH hlen hfY c2
  rw [hm] at hn4 hn5 c4
  rw [hbo] at c1 HH
  obtain ⟨t, ht⟩ : ∃ t, H.length = t := ⟨_, rfl⟩
  rw [ht] at hlen HP
  have HT := Lib.hid ht
  have hp0 : (0 : Int) ≤ p := by omega
  have hpn : (p : Int) ≤ n := by omega
  have hcast : ((n - p : Nat) : Int) = (n : Int) - p := by omega
  have hne2 : ¬ n = p := by omega
  have hm0 : ((m : Int) == 0) = false := by rw [beq_eq_false_iff_ne]; omega
  have ht0 : 0 < t := by omega
  have htl : t ≤ 2199023255552 := by omega
  have HST : Hid (∀ s, (∀ j, j < s → H[(r % t + j) % t]? = some []) → s < t) := Lib.hid (by
    intro s hs
    obtain ⟨c, hc, hcn⟩ := HSM.out
    obtain ⟨i, hi⟩ := List.mem_iff_getElem?.1 hc
    have hil : i < t := by rw [← HT.out]; exact (List.getElem?_eq_some_iff.1 hi).1
    apply Classical.byContradiction
    intro hge
    have hrt : r % t < t := Nat.mod_lt _ ht0
    have hj : (r % t + (i + t - r % t) % t) % t = i := by
      rw [Nat.add_mod_mod, show r % t + (i + t - r % t) = i + t by omega, Nat.add_mod_right, Nat.mod_eq_of_lt hil]
    have := hs ((i + t - r % t) % t) (by have := Nat.mod_lt (i + t - r % t) ht0; omega)
    rw [hj, hi] at this
    exact hcn (Option.some.inj this))
  clear h hw hne hT hyv hyc hH hp hn hn2 hm hbo hcl hsome ht
  go_enter Tryz.func67, Tryz.ntmps67
  go_wp2_with fail
  go_quiet (fail)
  go_wp2_with fail
  obtain ⟨w1, hw1⟩ : ∃ w1, w.drewN nq = w1 := ⟨_, rfl⟩
  have HC1 : Hid (∀ a, w1.cell? a = w.cell? a) := Lib.hid fun a => by rw [← hw1]; rfl
  have HW1 := Lib.hid hw1
  have d2 : w1.cell? ⟨d, 2, none⟩ = some (.slice yp n2 n2) := (HC1.out _).trans c2
  have ht2 : (n : Int) - p + n2 = t := by omega
  rw [hw1, ht2]
  clear hw1 c1 c2 c3 c4 ht2 hlen
  go_loopg [8] t (fun g i wr => wr = w1 ∧ ∃ s : Nat, i = .int .u64 ((r % t + s) % t : Nat) ∧ s + g = t ∧ Hid (∀ j, j < s → H[(r % t + j) % t]? = some []))
  case atStart => exact ⟨rfl, 0, by simp, by omega, Lib.hid (by intro j hj; omega)⟩
  case round =>
    obtain ⟨rfl, s, rfl, hg, HS⟩ := hrel
    have hst := HST.out s HS.out
    obtain ⟨i, hi⟩ : ∃ i, (r % t + s) % t = i := ⟨_, rfl⟩
    have hit : i < t := by rw [← hi]; exact Nat.mod_lt _ ht0
    have HI := Lib.hid hi
    rw [hi]
    have hi1 : ((r % t + (s + 1)) % t : Nat) = (i + 1) % t := by rw [← hi, ← Nat.add_assoc, Nat.mod_add_mod]
    have HI1 : Hid (Value.int .u64 (((i : Int) + 1) % (t : Int)) = Value.int .u64 ((r % t + (s + 1)) % t : Nat)) := Lib.hid (by
      rw [hi1]
      simp)
    obtain ⟨c, hc⟩ : ∃ c, H[i]? = some c := ⟨_, List.getElem?_eq_getElem (by rw [HT.out]; exact hit)⟩
    obtain ⟨hch, hcase⟩ := HH.out i c hc
    have HC := Lib.hid hc
    have HCH := Lib.hid hch
    clear hc hch hi hi1
    cases c with
    | nil =>
      have HN : Hid (∀ j, j < s + 1 → H[(r % t + j) % t]? = some []) := Lib.hid fun j hj => by
        by_cases e : j < s
        · exact HS.out j e
        · obtain rfl : j = s := by omega
          rw [HI.out]; exact HC.out
      rcases hcase with ⟨ha, hcell⟩ | ⟨ha, hY, hb, hcell⟩
      · have hd := (HC1.out _).trans hcell
        have hai : (i : Int) < (n : Int) - p := by omega
        simp only [ptrOf, ptrA] at hd
        have HG := Lib.hid (And.intro hg hst)
        clear hcell hst hg
        go_wp2_with fail
        go_roundg (gk - 1)
        case measure => have ⟨g1, g2⟩ := HG.out; omega
        case rel => exact ⟨rfl, s + 1, HI1.out, by have ⟨g1, g2⟩ := HG.out; omega, HN⟩
      · obtain rfl := HYP.out hY
        obtain ⟨j2, hj2⟩ : ∃ j2, i - (n - p) = j2 := ⟨_, rfl⟩
        rw [hj2] at hcell hb
        have hd := (HC1.out _).trans hcell
        have hai : ¬ (i : Int) < (n : Int) - p := by omega
        have hj3 : (i : Int) - ((n : Int) - p) = (j2 : Int) := by omega
        simp only [ptrOf, ptrA] at hd
        have HG := Lib.hid (And.intro hg hst)
        clear hcell hst hg
        go_wp2_with fail
        go_roundg (gk - 1)
        case measure => have ⟨g1, g2⟩ := HG.out; omega
        case rel => exact ⟨rfl, s + 1, HI1.out, by have ⟨g1, g2⟩ := HG.out; omega, HN⟩
    | cons e c =>
      have hk0 : 0 < (e :: c).length := by simp
      have hkl := HCL.out (e :: c) (List.mem_of_getElem? HC.out)
      obtain ⟨k, hk⟩ : ∃ k, (e :: c).length = k := ⟨_, rfl⟩
      rw [hk] at hk0 hkl
      have hp1 : ptrA (e :: c) = some ⟨e.b, 0, none⟩ := rfl
      obtain ⟨cc, hcc⟩ : ∃ cc, e :: c = cc := ⟨_, rfl⟩
      rw [ptrOf, hp1] at hcase
      rw [hcc] at HC HCH hk hp1
      have HK := Lib.hid hk
      have HP1 := Lib.hid hp1
      obtain ⟨q, hq⟩ : ∃ q, r / t = q := ⟨_, rfl⟩
      have hqi : (r : Int) / (t : Int) = (q : Int) := by rw [← hq]; simp
      have hql : q < 18446744073709551616 := by have := Nat.div_le_self r t; omega
      obtain ⟨kk, hkk⟩ : ∃ kk, q % k = kk := ⟨_, rfl⟩
      have hkki : (q : Int) % (k : Int) = (kk : Int) := by rw [← hkk]; simp
      have hkkl : kk < k := by rw [← hkk]; exact Nat.mod_lt _ hk0
      have HEND : Hid (∀ x, cc[kk]? = some x → SampPost D r w (.returned (.tuple #[.string ⟨x.key.toArray⟩, .bool true])) wr) := Lib.hid (by
        intro x hx
        have h3 : H[(r % t + s) % t]? = some cc := by rw [HI.out]; exact HC.out
        have := HP.out s cc x HS.out hst h3 (by rw [hq, hk, hkk]; exact hx) nq
        rwa [HW1.out] at this)
      clear hcc hk hp1 HI1 hq hkk hst hg
      rcases hcase with ⟨ha, hcell⟩ | ⟨ha, hY, hb, hcell⟩
      · have hd := (HC1.out _).trans hcell
        have hai : (i : Int) < (n : Int) - p := by omega
        clear hcell
        go_wp2_with fail
        go_loop [10, 11] (fun l x => ∃ (m : Nat) (pa : Option Addr), m ≤ k ∧ l = .int .u64 m ∧ x = .pointer pa ∧ Hid (pa = ptrA (cc.drop m))) (fun l _ => k - (intOf l).toNat)
        case atStart => exact ⟨0, _, Nat.zero_le _, rfl, rfl, Lib.hid HP1.out.symm⟩
        case round =>
          obtain ⟨m, pa, hmk, rfl, rfl, HPA⟩ := hrel
          by_cases hlt : m < k
          · obtain ⟨x, hx⟩ : ∃ x, cc[m]? = some x := ⟨_, List.getElem?_eq_getElem (by rw [HK.out]; exact hlt)⟩
            obtain ⟨-, x2, x3⟩ := HCH.out.at hx
            obtain rfl : pa = some ⟨x.b, 0, none⟩ := HPA.out.trans x3
            have y2 := (HC1.out _).trans x2
            rw [ptrOf] at y2
            clear hx x2 x3
            go_wp2_with fail
            go_round
            case rel => exact ⟨m + 1, _, by omega, by go_num, rfl, Lib.hid rfl⟩
            case measure => simp [intOf]; omega
          · obtain rfl : m = k := by omega
            obtain rfl : pa = none := HPA.out.trans (drop_all (by rw [HK.out]; exact Nat.le_refl _))
            go_wp2_with fail
            go_loop [9, 12] (fun x l => ∃ (j : Nat) (pa : Option Addr), j ≤ kk ∧ l = .int .u64 j ∧ x = .pointer pa ∧ Hid (pa = ptrA (cc.drop (kk - j)))) (fun _ l => (intOf l).toNat)
            case atStart => exact ⟨kk, _, Nat.le_refl _, rfl, rfl, Lib.hid (by rw [Nat.sub_self]; exact HP1.out.symm)⟩
            case round =>
              obtain ⟨j, pa, hjk, rfl, rfl, HPA⟩ := hrel
              obtain ⟨x, hx⟩ : ∃ x, cc[kk - j]? = some x := ⟨_, List.getElem?_eq_getElem (by rw [HK.out]; omega)⟩
              obtain ⟨x1, x2, x3⟩ := HCH.out.at hx
              obtain rfl : pa = some ⟨x.b, 0, none⟩ := HPA.out.trans x3
              have y1 := (HC1.out _).trans x1
              have y2 := (HC1.out _).trans x2
              rw [ptrOf] at y2
              cases j with
              | zero =>
                have HE := Lib.hid (HEND.out x hx)
                clear hx x1 x2 x3 y2
                go_wp2_with fail
                go_ret2
                exact HE.out
              | succ j =>
                have HN : Hid (ptrA (cc.drop (kk - (j + 1) + 1)) = ptrA (cc.drop (kk - j))) := Lib.hid (by rw [show kk - (j + 1) + 1 = kk - j by omega])
                clear hx x1 x2 x3 y1
                go_wp2_with fail
                go_round
                case rel => exact ⟨j, _, by omega, by go_num, rfl, HN⟩
                case measure => simp [intOf]
      · obtain rfl := HYP.out hY
        obtain ⟨j2, hj2⟩ : ∃ j2, i - (n - p) = j2 := ⟨_, rfl⟩
        rw [hj2] at hcell hb
        have hd := (HC1.out _).trans hcell
        have hai : ¬ (i : Int) < (n : Int) - p := by omega
        have hj3 : (i : Int) - ((n : Int) - p) = (j2 : Int) := by omega
        clear hcell
        go_wp2_with fail
        go_loop [10, 11] (fun l x => ∃ (m : Nat) (pa : Option Addr), m ≤ k ∧ l = .int .u64 m ∧ x = .pointer pa ∧ Hid (pa = ptrA (cc.drop m))) (fun l _ => k - (intOf l).toNat)
        case atStart => exact ⟨0, _, Nat.zero_le _, rfl, rfl, Lib.hid HP1.out.symm⟩
        case round =>
          obtain ⟨m, pa, hmk, rfl, rfl, HPA⟩ := hrel
          by_cases hlt : m < k
          · obtain ⟨x, hx⟩ : ∃ x, cc[m]? = some x := ⟨_, List.getElem?_eq_getElem (by rw [HK.out]; exact hlt)⟩
            obtain ⟨-, x2, x3⟩ := HCH.out.at hx
            obtain rfl : pa = some ⟨x.b, 0, none⟩ := HPA.out.trans x3
            have y2 := (HC1.out _).trans x2
            rw [ptrOf] at y2
            clear hx x2 x3
            go_wp2_with fail
            go_round
            case rel => exact ⟨m + 1, _, by omega, by go_num, rfl, Lib.hid rfl⟩
            case measure => simp [intOf]; omega
          · obtain rfl : m = k := by omega
            obtain rfl : pa = none := HPA.out.trans (drop_all (by rw [HK.out]; exact Nat.le_refl _))
            go_wp2_with fail
            go_loop [9, 12] (fun x l => ∃ (j : Nat) (pa : Option Addr), j ≤ kk ∧ l = .int .u64 j ∧ x = .pointer pa ∧ Hid (pa = ptrA (cc.drop (kk - j)))) (fun _ l => (intOf l).toNat)
            case atStart => exact ⟨kk, _, Nat.le_refl _, rfl, rfl, Lib.hid (by rw [Nat.sub_self]; exact HP1.out.symm)⟩
            case round =>
              obtain ⟨j, pa, hjk, rfl, rfl, HPA⟩ := hrel
              obtain ⟨x, hx⟩ : ∃ x, cc[kk - j]? = some x := ⟨_, List.getElem?_eq_getElem (by rw [HK.out]; omega)⟩
              obtain ⟨x1, x2, x3⟩ := HCH.out.at hx
              obtain rfl : pa = some ⟨x.b, 0, none⟩ := HPA.out.trans x3
              have y1 := (HC1.out _).trans x1
              have y2 := (HC1.out _).trans x2
              rw [ptrOf] at y2
              cases j with
              | zero =>
                have HE := Lib.hid (HEND.out x hx)
                clear hx x1 x2 x3 y2
                go_wp2_with fail
                go_ret2
                exact HE.out
              | succ j =>
                have HN : Hid (ptrA (cc.drop (kk - (j + 1) + 1)) = ptrA (cc.drop (kk - j))) := Lib.hid (by rw [show kk - (j + 1) + 1 = kk - j by omega])
                clear hx x1 x2 x3 y1
                go_wp2_with fail
                go_round
                case rel => exact ⟨j, _, by omega, by go_num, rfl, HN⟩
                case measure => simp [intOf]
end Go.Proofs.YtelbmphmihjgfaaGreat.DEnt
