/- Chapter 7: what hangs together, and the law that trees join: plain laws. -/
import Derived.Test.YtihjaehkdgdenaaRuA
import Derived.Test.YtihjaehkdgdenaaRtY2
import Derived.Test.YtihjaehkdgdenaaRtJ
namespace Go.Proofs.Ytihjaehkdgdenaa
open Go Go.RowKit
set_option linter.unusedVariables false
set_option linter.unusedSimpArgs false

theorem list_set_self' {α : Type} {l : List α} {i : Nat} {x : α} (h : l[i]? = some x) : l.set i x = l := by
  apply List.ext_getElem?
  intro j
  rw [List.getElem?_set]
  split
  · rename_i e; subst e; rw [if_pos (lt_of_get h), h]
  · rfl
theorem S_hangs {pins : List Cell} {p0 : Cell} {W : List (List Cell)} (hp : pins[0]? = some p0) (hW : W.length ≤ 40000) (hl : ∀ w ∈ W, w.length ≤ 40000)
    (hord : ∀ (j : Nat) w, W[j]? = some w → ∃ x ∈ w, x = p0 ∨ ∃ (i : Nat) (v : List Cell), i < j ∧ W[i]? = some v ∧ x ∈ v) (hcov : ∀ p ∈ pins, p = p0 ∨ ∃ v ∈ W, p ∈ v) {Q : Bool → Prop} (h : Q true) : M_ref7_hangs pins W Q := by
  unfold M_ref7_hangs
  refine idx_nat (i := 0) hp ⟨⟨by omega, by omega⟩, ?_⟩
  have full : ∀ l4 : List Cell, (∀ x, x ∈ l4 ↔ x = p0 ∨ ∃ (i : Nat) (v : List Cell), i < W.length ∧ W[i]? = some v ∧ x ∈ v) → ∀ p ∈ pins, p ∈ l4 := fun l4 hl4 p hpm => by
    rw [hl4]
    rcases hcov p hpm with h1 | ⟨v, hv, h2⟩
    · exact .inl h1
    · obtain ⟨i, hi⟩ := List.getElem?_of_mem hv
      exact .inr ⟨i, v, lt_of_get hi, hi, h2⟩
  refine lp_measN (fun m (s : List Bool × List Cell × Bool) => m ≤ 2 ∧ (m = 2 → s = (List.replicate W.length false, [p0], true)) ∧ (m ≤ 1 → s.1 = List.replicate W.length true ∧ ∀ x, x ∈ s.2.1 ↔ x = p0 ∨ ∃ (i : Nat) (v : List Cell), i < W.length ∧ W[i]? = some v ∧ x ∈ v) ∧ (m = 0 → s.2.2 = false)) (n := 2) ⟨Nat.le_refl _, fun _ => rfl, fun h => by omega, fun h => by omega⟩ ?_
  rintro m ⟨l3, l4, c2⟩ X ⟨hm, h2, h1, h0⟩ hX
  simp only at h1 h0
  show M_ref7_hangs_L1 pins W Q (fun l3 l4 c2 => X (l3, l4, c2)) l3 l4 c2
  unfold M_ref7_hangs_L1
  rcases (show m = 2 ∨ m ≤ 1 by omega) with hm2 | hm1
  · have h2 := h2 hm2
    simp only [Prod.mk.injEq] at h2
    obtain ⟨rfl, rfl, rfl⟩ := h2
    simp only [cnd_true]
    refine forIn0 (fun j (s : List Bool × List Cell × Bool) => s.1 = List.replicate j true ++ List.replicate (W.length - j) false ∧ (∀ x, x ∈ s.2.1 ↔ x = p0 ∨ ∃ (i : Nat) (v : List Cell), i < j ∧ W[i]? = some v ∧ x ∈ v) ∧ s.2.1.length ≤ 1 + j * 40000) ⟨by simp, fun x => by simp, by simp⟩ (fun k x s hx hI next hnx => ?_) (fun s hI => ?_)
    · obtain ⟨l7, l8, c4⟩ := s
      obtain ⟨i1, i2, i3⟩ := hI
      simp only at i1 i2 i3
      have hk := lt_of_get hx
      have hxl := hl x (List.mem_of_getElem? hx)
      have h7 : l7[k]? = some false := by rw [i1, List.getElem?_append_right (by simp), List.getElem?_replicate]; simp; omega
      show M_ref7_hangs_L2 k x l7 l8 c4 (fun l7 l8 c4 => next (l7, l8, c4))
      unfold M_ref7_hangs_L2
      refine idx_nat h7 ?_
      simp only [cnd_false]
      obtain ⟨y, hy, hy2⟩ := hord k x hx
      have hy8 : y ∈ l8 := (i2 y).2 hy2
      refine forIn0 (fun j (l : List Bool) => l = l7.set k (decide (∃ z ∈ x.take j, z ∈ l8))) ?_ (fun j z l hz hJ nx hnn => ?_) (fun l hJ => ?_)
      · simp only [List.take_zero, List.not_mem_nil, false_and, exists_false, decide_false]
        exact (list_set_self' h7).symm
      · have hlk : l[k]? = some (decide (∃ z ∈ x.take j, z ∈ l8)) := by rw [hJ]; exact List.getElem?_set_self (by rw [i1]; simp; omega)
        unfold M_ref7_hangs_L3
        have htk : ∀ P : Cell → Prop, (∃ z' ∈ x.take (j + 1), P z') ↔ (∃ z' ∈ x.take j, P z') ∨ P z := fun P => by
          rw [List.take_add_one, hz]
          simp only [Option.toList, List.mem_append, List.mem_singleton]
          constructor
          · rintro ⟨z', h1 | h1, h2⟩
            · exact .inl ⟨z', h1, h2⟩
            · subst h1; exact .inr h2
          · rintro (⟨z', h1, h2⟩ | h2)
            · exact ⟨z', .inl h1, h2⟩
            · exact ⟨z, .inr rfl, h2⟩
        refine idx_nat hlk ?_
        refine cnd_of (fun e => ?_) (fun e => ?_)
        · refine hnn _ ?_
          rw [hJ, List.set_set]
          congr 1
          exact (decide_eq_true ((htk _).2 (.inl (of_decide_eq_true e)))).symm
        · refine S_contains_cell (hnn _ ?_)
          rw [hJ, List.set_set]
          congr 1
          refine decide_eq_decide.2 ?_
          rw [htk]
          exact ⟨.inr, fun hh => hh.elim (fun h1 => absurd (decide_eq_true h1) (by rw [e]; simp)) id⟩
      · rw [List.take_length, decide_eq_true ⟨y, hy, hy8⟩] at hJ
        have hlk : l[k]? = some true := by rw [hJ]; exact List.getElem?_set_self (by rw [i1]; simp; omega)
        refine idx_nat hlk ?_
        simp only [cnd_true]
        refine ⟨room_of (by simp only [List.length_append]; omega) (by decide), hnx _ ⟨?_, fun z => ?_, by simp only [List.length_append]; omega⟩⟩
        · simp only
          rw [hJ, i1]
          apply List.ext_getElem?
          intro i
          rw [List.getElem?_set]
          have hlen : (List.replicate k true ++ List.replicate (W.length - k) false).length = W.length := by simp; omega
          rcases Nat.lt_trichotomy i k with h1 | h1 | h1
          · rw [if_neg (by omega), List.getElem?_append_left (by simpa using h1), List.getElem?_append_left (by simp; omega), List.getElem?_replicate, List.getElem?_replicate, if_pos h1, if_pos (by omega)]
          · subst h1
            rw [if_pos rfl, if_pos (by omega), List.getElem?_append_left (by simp), List.getElem?_replicate, if_pos (by omega)]
          · rw [if_neg (by omega), List.getElem?_append_right (by simp; omega), List.getElem?_append_right (by simp; omega), List.getElem?_replicate, List.getElem?_replicate]
            simp only [List.length_replicate]
            by_cases h9 : i < W.length
            · rw [if_pos (by omega), if_pos (by omega)]
            · rw [if_neg (by omega), if_neg (by omega)]
        · simp only [List.mem_append]
          rw [i2]
          constructor
          · rintro ((h1 | ⟨i, v, a1, a2, a3⟩) | h1)
            · exact .inl h1
            · exact .inr ⟨i, v, by omega, a2, a3⟩
            · exact .inr ⟨k, x, by omega, hx, h1⟩
          · rintro (h1 | ⟨i, v, a1, a2, a3⟩)
            · exact .inl (.inl h1)
            · rcases Nat.lt_succ_iff_lt_or_eq.1 a1 with h2 | h2
              · exact .inl (.inr ⟨i, v, h2, a2, a3⟩)
              · subst h2; rw [hx] at a2; injection a2 with a2; subst a2; exact .inr a3
    · obtain ⟨l7, l8, c4⟩ := s
      obtain ⟨i1, i2, i3⟩ := hI
      simp only at i1 i2
      exact hX 1 _ (by omega) ⟨by omega, fun h => by omega, fun _ => ⟨by rw [i1]; simp, i2⟩, fun h => by omega⟩
  · obtain ⟨g1, g2⟩ := h1 hm1
    subst g1
    refine cnd_of (fun e => ?_) (fun e => ?_)
    · have hm3 : m = 1 := by
        rcases (show m = 0 ∨ m = 1 by omega) with h3 | h3
        · rw [h0 h3] at e; cases e
        · exact h3
      refine forIn0 (fun j (s : List Bool × List Cell × Bool) => s = (List.replicate W.length true, l4, false)) rfl (fun k x s hx hI next hnx => ?_) (fun s hI => ?_)
      · subst hI
        have hk := lt_of_get hx
        show M_ref7_hangs_L2 k x _ l4 false (fun l7 l8 c4 => next (l7, l8, c4))
        unfold M_ref7_hangs_L2
        refine idx_nat (x := true) (by rw [List.getElem?_replicate, if_pos hk]) ?_
        simp only [cnd_true]
        exact hnx _ rfl
      · subst hI
        exact hX 0 _ (by omega) ⟨by omega, fun h => by omega, fun _ => ⟨rfl, g2⟩, fun _ => rfl⟩
    · refine forIn0 (fun _ _ => True) trivial (fun k x s hx _ next hnx => ?_) (fun s _ => ?_)
      · unfold M_ref7_hangs_L4
        refine S_contains_cell ?_
        rw [decide_eq_true (full l4 g2 x (List.mem_of_getElem? hx))]
        simp only [Bool.not_true, cnd_false]
        exact hnx _ trivial
      · unfold M_contains_bool M_index_bool
        refine forIn0 (fun _ _ => True) trivial (fun k x s hx _ next hnx => ?_) (fun s _ => h)
        have hxt : x = true := by have := List.mem_of_getElem? hx; simp at this; exact this.2
        subst hxt
        unfold M_index_bool_L1
        show cnd false _ _
        simp only [cnd_false]
        exact hnx _ trivial
theorem law_treesJoin (g : Grid) (c : Costs) (pins : List Cell) : M_law_TreesJoin g c pins (· = true) := by
  unfold M_law_TreesJoin
  have none_ : M_law_TreesJoin_k1 g c pins (· = true) [] true := by
    unfold M_law_TreesJoin_k1
    simp only [cnd_true]
    show cnd true _ _
    simp only [cnd_true]
    exact S_awake rfl
  refine S_route_Tree (fun e => cnd_of (fun _ => none_) (fun e2 => absurd (by simpa using e2) e)) (fun e W ok hr => ?_)
  show cnd false _ _
  simp only [cnd_false]
  cases ok with
  | false => exact none_
  | true =>
    obtain ⟨hb, hg, hc, p1, p2, p3, p4⟩ := treeF_zero e
    have hx0 : pins[0]? = some (pins.getD 0 default) := by rw [List.getD_eq_getElem?_getD, List.getElem?_eq_getElem p1]; rfl
    have hxg := p4 _ (List.mem_of_getElem? hx0)
    have hr0 := numN_lt hg.sz hxg.1
    have hN := hg.N
    have hlen := hr.len (by simp) (fun n hn => by simp at hn; subst hn; exact hr0)
    have hright := hr.right hg hc
    simp only [List.length_singleton] at hlen
    simp only [if_true]
    unfold M_law_TreesJoin_k1
    simp only [Bool.not_true, cnd_false]
    refine forIn0 (fun k (n : Int) => n = sumW c (W.take k) ∧ 0 ≤ n ∧ n ≤ k * 120000000) ⟨by simp [sumW], Int.le_refl _, by simp⟩ (fun k w n hw hI next hnx => ?_) (fun n hI => ?_)
    · unfold M_law_TreesJoin_L1
      have hwr := hright w (List.mem_of_getElem? hw)
      have hcf : costOfF g c w = 0 := by unfold costOfF; rw [if_neg (by simp [hb])]; exact hwr
      have hcb := costW_bnd hg hc hwr
      have hk := lt_of_get hw
      refine S_CostOf ?_
      rw [hcf, if_neg (by decide)]
      show cnd false _ _
      simp only [cnd_false]
      rw [w64_id (n := n + costW c w) (by omega) (by omega)]
      exact hnx _ ⟨by rw [sumW_take hw, hI.1], by omega, by push_cast; omega⟩
    · rw [List.take_length] at hI
      have hn := hI.1
      unfold M_ref7_Hangs
      rw [decide_eq_true (show (pins.length : Int) > 0 by omega)]
      simp only [cnd_true]
      refine S_hangs hx0 (by omega) (fun w hw => (way_ok (hright w hw)).1) (fun j w hj => ?_) (fun p hp => ?_) ?_
      · obtain ⟨x, hx, h1⟩ := hr.ord j w hj
        refine ⟨x, hx, h1.imp (fun ⟨n, hn2, e2⟩ => ?_) id⟩
        simp at hn2
        rw [e2, hn2]; exact cellN_numN hg.sz hxg.1
      · refine (hr.cov hg p4 rfl p hp).imp (fun h1 => ?_) id
        simp at h1
        exact numN_inj hg.sz (p4 p hp).1 hxg.1 h1
      · simp only [Bool.not_true, cnd_false]
        refine S_awake ?_
        unfold M_law_TreesJoin_k3
        simp only [Bool.not_true, cnd_false]
        refine cnd_of (fun e2 => ?_) (fun e2 => trivial)
        have hl2 : pins.length = 2 := by simp at e2; omega
        obtain ⟨a, b, rfl⟩ : ∃ a b, pins = [a, b] := by
          match pins, hl2 with
          | [a, b], _ => exact ⟨a, b, rfl⟩
        have hab : a ≠ b := by simp at p3; exact p3
        obtain ⟨w, d, keys, hW, hG, hd, hd0, hcw⟩ := TreeRun.two hg hc hab p4 hr
        refine idx_nat (i := 0) (x := a) rfl (idx_nat (i := 1) (x := b) rfl ?_)
        have hff : findF g c [a, b] = 0 := by
          have ha := p4 a (by simp)
          have hb2 := p4 b (by simp)
          unfold findF
          rw [if_neg (by simp [hb])]
          simp [ha.1, ha.2, hb2.1, hb2.2]
        refine S_Least (fun e3 => absurd hff e3) (fun _ out d' hout hd' => ?_)
        have := hG.least.uniq hout
        subst this
        rw [hd] at hd'; injection hd' with hd'; subst hd'
        have eq2 : leastQ d = (d / kB, true) := by unfold leastQ; rw [if_neg (by omega)]
        rw [eq2]
        show cnd true _ _
        simp only [cnd_true]
        have hs : n = d / kB := by rw [hn, hW]; unfold sumW; simp [hcw]
        rw [hs, beq_self_eq_true]
        simp only [cnd_true]
        rw [hW]; rfl
end Go.Proofs.Ytihjaehkdgdenaa
