/- Chapter 7: without turns and directions no tree costs less than the least one: the plain law. -/
import Derived.Test.YtihjaehkdgdenaaRuA
import Derived.Test.YtihjaehkdgdenaaRtZ
import Derived.Test.YtihjaehkdgdenaaRtY3
import Derived.Test.YtihjaehkdgdenaaJoin
import Derived.Test.YtihjaehkdgdenaaRtJ
namespace Go.Proofs.Ytihjaehkdgdenaa
open Go Go.RowKit
set_option linter.unusedVariables false
set_option linter.unusedSimpArgs false

/-! ### without turns and directions -/
section
variable {G : Gr}
theorem flat_base (ha : G.agn = 0) (n : Nat) (al : Int) : G.base n al = G.wt al := by
  unfold Gr.base Gr.wt
  split
  · rfl
  · rw [ha]; split <;> omega
theorem flat_tn (ht : G.turn = 0) (a b : Int) : G.tn a b = 0 := by unfold Gr.tn; rw [ht]; split <;> rfl
theorem flat_trn (ht : G.turn = 0) : ∀ (L : List Int) (a : Int), G.trn a L = 0
  | [], _ => rfl
  | x :: r, a => by unfold Gr.trn; rw [flat_tn ht, flat_trn ht r x]; rfl
theorem way_uw (ht : G.turn = 0) (ha : G.agn = 0) {a b : Nat} {c : Int} {n : Nat} (h : G.Way a b c n) : G.UW a b c := by
  obtain ⟨c0, L, hp, hc⟩ := h
  rw [flat_trn ht, Int.add_zero] at hc
  subst hc
  induction hp with
  | nil h1 h2 => exact .nil h1 h2
  | snoc _ hb h0 ih => rw [flat_base ha]; exact ih.snoc hb h0
theorem uw_way (ok : G.Ok) (ht : G.turn = 0) (ha : G.agn = 0) {a b : Nat} {c : Int} (h : G.UW a b c) : ∃ n : Nat, G.Way a b c n ∧ (n : Int) ≤ c := by
  have : ∃ (n : Nat) (L : List Int), G.Pth a b c n L ∧ (n : Int) ≤ c := by
    induction h with
    | nil h1 h2 => exact ⟨0, [], .nil h1 h2, by simp⟩
    | @snoc b m c al _ hb h0 ih =>
      obtain ⟨n, L, hp, hn⟩ := ih
      have hw := ok.wt al
      have := hp.snoc hb h0
      rw [flat_base ha] at this
      exact ⟨n + 1, _, this, by push_cast; omega⟩
  obtain ⟨n, L, hp, hn⟩ := this
  exact ⟨n, ⟨c, L, hp, by rw [flat_trn ht, Int.add_zero]⟩, hn⟩
theorem steps_chain2 (ht : G.turn = 0) (ha : G.agn = 0) {s e : Nat} {l : List Nat} {c : Int} (h : G.Steps s l c e) (hs : s < 3 * G.N) (fs : G.no (s / 3) = false) : Chain G (s / 3) (l.map (· / 3)) c := by
  induction h with
  | nil => exact .nil
  | @cons s t k l c e he hr ih =>
    obtain ⟨al, hnb, hm, _, hk⟩ := Gr.E_on hs he
    have htN := hnb.2.1
    have hke : k = G.wt al := by
      rw [hk, flat_base ha, flat_tn ht]
      unfold Gr.wt
      split
      · rfl
      · omega
    rw [List.map_cons, hke]
    exact .cons (.one hnb fs hm) (ih (by omega) hm)
theorem steps_flat (ok : G.Ok) (ht : G.turn = 0) (ha : G.agn = 0) {s e : Nat} {l : List Nat} {c : Int} (h : G.Steps s l c e) (hs : s < 3 * G.N) : c ≤ l.length * 1000 := by
  induction h with
  | nil => simp
  | @cons s t k l c e he hr ih =>
    obtain ⟨al, hnb, hm, _, hk⟩ := Gr.E_on hs he
    have htN := hnb.2.1
    have hw := ok.wt al
    have hke : k = G.wt al := by
      rw [hk, flat_base ha, flat_tn ht]
      unfold Gr.wt
      split
      · rfl
      · omega
    have := ih (by omega)
    simp only [List.length_cons]; push_cast; omega
end
section
variable {g : Grid} {c : Costs} {pins : List Cell}
theorem pin_idx {p : Cell} (hp : p ∈ pins) : ∃ i, i < pins.length ∧ pins[i]? = some p ∧ pinNum g pins i = numN g p := by
  obtain ⟨i, hi⟩ := List.getElem?_of_mem hp
  exact ⟨i, lt_of_get hi, hi, by unfold pinNum; rw [List.getD_eq_getElem?_getD, hi]; rfl⟩
theorem bit_zero {a b : Nat} (h : ∀ j, a.testBit j = true → b.testBit j = true → False) : a &&& b = 0 := by
  refine Nat.eq_of_testBit_eq (fun j => ?_)
  rw [Nat.testBit_and, Nat.zero_testBit]
  cases ha : a.testBit j with
  | false => rfl
  | true =>
    cases hb : b.testBit j with
    | false => rfl
    | true => exact (h j ha hb).elim
theorem TreeRun.hang (hg : GOk g) (hc : COk c) (ht : c.Turn = 0) (ha : c.Against = 0) (hk : pins.length ≤ 6) (hpf : ∀ x ∈ pins, inG g x = true ∧ x ∉ g.Blocked) {T : Nat → List Int} (hD : Dwt (grC g c) (pinNum g pins) pins.length T (2 ^ pins.length)) {C : List Nat} {W : List (List Cell)} {ok : Bool} (h : TreeRun g c pins C W ok) (hok : ok = true) :
    ∃ v, Hang (grC g c) T pins.length C (mk (fun i => decide (pinNum g pins i ∉ C)) pins.length) v ∧ v ≤ sumW c W := by
  have hnum := pin_free (c := c) hg hpf
  induction h with
  | @done C hd =>
    refine ⟨0, ?_, by simp [sumW]⟩
    have : mk (fun i => decide (pinNum g pins i ∉ C)) pins.length = 0 := by
      refine Nat.eq_of_testBit_eq (fun j => ?_)
      rw [mk_bit, Nat.zero_testBit]
      by_cases hj : j < pins.length
      · have hm : pins.getD j default ∈ pins := by rw [List.getD_eq_getElem?_getD, List.getElem?_eq_getElem hj]; exact List.getElem_mem hj
        have := hd _ hm
        rw [decide_eq_false (show ¬ pinNum g pins j ∉ C from fun hh => hh this), Bool.and_false]
      · rw [decide_eq_false hj, Bool.false_and]
    rw [this]; exact .nil
  | fail _ _ => cases hok
  | @step C T' i p d keys start l W ok hp hw hr ih =>
    obtain ⟨v', hh, hv'⟩ := ih hok
    have hax : ∀ n, n ∈ C → n ∈ T' := fun n hn => (hw.iff n).2 (.inl hn)
    obtain ⟨M1, M2, v1, v2, h1, h2, h3, h4, h5⟩ := hh.split (A := C) (B := (3 * start :: l).map (· / 3)) (fun a ha => (hw.iff a).1 ha)
    have hin : ∀ j, (M1 ||| M2).testBit j = (decide (j < pins.length) && decide (pinNum g pins j ∉ T')) := fun j => by rw [h4, mk_bit]
    have hU : ∀ j, decide (pinNum g pins j ∈ T' ∧ pinNum g pins j ∉ C) = true → pinNum g pins j ∈ (3 * start :: l).map (· / 3) := fun j hj => by
      have hj := of_decide_eq_true hj
      exact ((hw.iff _).1 hj.1).resolve_left hj.2
    have hpins := Hang.pins hD hnum (C := (3 * start :: l).map (· / 3)) (fun j => decide (pinNum g pins j ∈ T' ∧ pinNum g pins j ∉ C)) hU pins.length (Nat.le_refl _)
    have sub : ∀ M j, (M = M1 ∨ M = M2) → M.testBit j = true → pinNum g pins j ∉ T' := fun M j hM hb => by
      have : (M1 ||| M2).testBit j = true := by rw [Nat.testBit_or]; rcases hM with h | h <;> subst h <;> simp [hb]
      rw [hin, Bool.and_eq_true] at this
      exact of_decide_eq_true this.2
    have hp0 : ∀ M, (M = M1 ∨ M = M2) → M &&& mk (fun j => decide (pinNum g pins j ∈ T' ∧ pinNum g pins j ∉ C)) pins.length = 0 := fun M hM => bit_zero (fun j a b => by
      rw [mk_bit, Bool.and_eq_true] at b
      exact sub M j hM a (of_decide_eq_true b.2).1)
    have hun := h2.union hpins (hp0 M2 (.inr rfl))
    rw [Int.add_zero] at hun
    obtain ⟨i', hi', hpi, hpe⟩ := pin_idx (g := g) (List.mem_of_getElem? hp.at_)
    have hpT : numN g p ∈ T' := (hw.iff _).2 (.inr (goes_end hw.goal hw.goes hw.key))
    have hne : M2 ||| mk (fun j => decide (pinNum g pins j ∈ T' ∧ pinNum g pins j ∉ C)) pins.length ≠ 0 := fun e => by
      have : (M2 ||| mk (fun j => decide (pinNum g pins j ∈ T' ∧ pinNum g pins j ∉ C)) pins.length).testBit i' = true := by
        rw [Nat.testBit_or, mk_bit, decide_eq_true hi', decide_eq_true (show pinNum g pins i' ∈ T' ∧ pinNum g pins i' ∉ C by rw [hpe]; exact ⟨hpT, hp.out⟩)]; simp
      rw [e] at this; simp at this
    have hgt : (grC g c).turn = 0 := ht
    have hga : (grC g c).agn = 0 := ha
    obtain ⟨kc, e, hst, _, _⟩ := hw.goes.steps hw.key
    have hfs := hw.goal.free_of hw.key hp.pos
    have hch := steps_chain2 hgt hga hst hfs.1 hfs.2
    rw [show 3 * start / 3 = start by omega] at hch
    have hmap : (3 * start :: l).map (· / 3) = start :: l.map (· / 3) := by rw [List.map_cons, show 3 * start / 3 = start by omega]
    rw [hmap] at hun
    have hj := Hang.chain (goodF_of hg hc).ok hk hD hch hun hne
    have hcost : costW c (cellsS g (3 * start :: l)) = kc := by
      have := steps_cost hg hc hst hfs.1
      rw [show 3 * start % 3 = 0 by omega] at this
      exact this
    have hd1 : (M2 ||| mk (fun j => decide (pinNum g pins j ∈ T' ∧ pinNum g pins j ∉ C)) pins.length) &&& M1 = 0 := by
      rw [Nat.and_comm]
      exact and_or_zero h3 (hp0 M1 (.inl rfl))
    have := Hang.cons hw.mem hj hd1 h1
    refine ⟨kc + v2 + v1, ?_, ?_⟩
    · have hm : (M2 ||| mk (fun j => decide (pinNum g pins j ∈ T' ∧ pinNum g pins j ∉ C)) pins.length) ||| M1 = mk (fun i => decide (pinNum g pins i ∉ C)) pins.length := by
        refine Nat.eq_of_testBit_eq (fun j => ?_)
        have e1 := hin j
        rw [Nat.testBit_or] at e1
        rw [Nat.testBit_or, Nat.testBit_or, mk_bit, mk_bit]
        have hcomb : ∀ a b x : Bool, (b || x || a) = ((a || b) || x) := by decide
        rw [hcomb, e1]
        by_cases q1 : pinNum g pins j ∈ T'
        · by_cases q2 : pinNum g pins j ∈ C <;> simp [q1, q2]
        · have q2 : pinNum g pins j ∉ C := fun hh => q1 (hax _ hh)
          simp [q1, q2]
      rw [hm] at this; exact this
    · unfold sumW at hv' ⊢
      rw [List.map_cons, List.sum_cons, hcost]; omega
theorem TreeRun.no_way {C : List Nat} {W : List (List Cell)} {ok : Bool} (h : TreeRun g c pins C W ok) (hok : ok = false) : ∃ q ∈ pins, ∀ a ∈ C, ∀ k n, ¬ (grC g c).Way a (numN g q) k n := by
  induction h with
  | done _ => cases hok
  | fail h1 h2 =>
    obtain ⟨p, hp, hpo⟩ := h1
    refine ⟨p, hp, fun a ha k n hw => ?_⟩
    rcases h2 p hp hpo with ⟨_, h3⟩ | ⟨h3, _⟩
    · exact h3 k n ⟨a, ha, hw⟩
    · exact absurd h3 (by decide)
  | step hp hw hr ih =>
    obtain ⟨q, hq, h1⟩ := ih hok
    exact ⟨q, hq, fun a ha => h1 a ((hw.iff a).2 (.inl ha))⟩
/-- a tree costs no less than the table says -/
theorem tree_le (hg : GOk g) (hc : COk c) (ht : c.Turn = 0) (ha : c.Against = 0) (hk : pins.length ≤ 6) (hp0 : 0 < pins.length) (hpn : pins.Nodup) (hpf : ∀ x ∈ pins, inG g x = true ∧ x ∉ g.Blocked) {T : Nat → List Int} (hD : Dwt (grC g c) (pinNum g pins) pins.length T (2 ^ pins.length)) {W : List (List Cell)} (h : TreeRun g c pins [pinNum g pins 0] W true) {d : Int} (hd : (T (2 ^ pins.length - 1))[pinNum g pins 0]? = some d) : 0 ≤ d ∧ d ≤ sumW c W := by
  have hnum := pin_free (c := c) hg hpf
  obtain ⟨v, hh, hv⟩ := h.hang hg hc ht ha hk hpf hD rfl
  have j0 := Jn.pin hD hnum hp0
  have inj : ∀ j, j < pins.length → pinNum g pins j = pinNum g pins 0 → j = 0 := fun j hj e => by
    have m1 : pins[j]? = some (pins.getD j default) := by rw [List.getD_eq_getElem?_getD, List.getElem?_eq_getElem hj]; rfl
    have m2 : pins[0]? = some (pins.getD 0 default) := by rw [List.getD_eq_getElem?_getD, List.getElem?_eq_getElem hp0]; rfl
    have e2 := numN_inj hg.sz (hpf _ (List.mem_of_getElem? m1)).1 (hpf _ (List.mem_of_getElem? m2)).1 e
    exact (List.getElem?_inj hj hpn).1 (by rw [m1, m2, e2])
  have hm : 2 ^ 0 ||| mk (fun i => decide (pinNum g pins i ∉ [pinNum g pins 0])) pins.length = 2 ^ pins.length - 1 := by
    refine Nat.eq_of_testBit_eq (fun j => ?_)
    rw [Nat.testBit_or, mk_bit, Nat.testBit_two_pow, Nat.testBit_two_pow_sub_one]
    by_cases hj : j < pins.length
    · by_cases hz : j = 0
      · subst hz; simp [hp0]
      · have : pinNum g pins j ∉ [pinNum g pins 0] := fun hh => hz (inj j hj (by simpa using hh))
        rw [decide_eq_true this, decide_eq_true hj]; simp
    · rw [decide_eq_false hj, decide_eq_false (show ¬ 0 = j by omega)]; rfl
  have hj : Jn (grC g c) T pins.length (2 ^ pins.length - 1) (pinNum g pins 0) v := by
    rw [← hm]
    by_cases hz : mk (fun i => decide (pinNum g pins i ∉ [pinNum g pins 0])) pins.length = 0
    · rw [hz] at hh ⊢
      rw [Nat.or_zero]
      exact j0.le hh.pos
    · have hdis : 2 ^ 0 &&& mk (fun i => decide (pinNum g pins i ∉ [pinNum g pins 0])) pins.length = 0 := bit_zero (fun j a b => by
        rw [Nat.testBit_two_pow] at a
        have : 0 = j := of_decide_eq_true a
        subst this
        rw [mk_bit, Bool.and_eq_true] at b
        exact (of_decide_eq_true b.2) (by simp))
      exact (j0.add hk hD (hh.at hk hD hz) hdis).le (by omega)
  obtain ⟨_, _, _, _, d', e1, e2, e3⟩ := hj
  rw [hd] at e1; injection e1 with e1
  omega
/-- the way of two pins costs no more than the table says -/
theorem two_ge (hg : GOk g) (hc : COk c) (ht : c.Turn = 0) (ha : c.Against = 0) (hN : (grG g).N ≤ 400) {a b : Cell} (hab : a ≠ b) (hpf : ∀ x ∈ [a, b], inG g x = true ∧ x ∉ g.Blocked) {T : Nat → List Int} (hD : Dwt (grC g c) (pinNum g [a, b]) 2 T (2 ^ 2)) (hT : TOk (grC g c) T (2 ^ 2)) {W : List (List Cell)} (h : TreeRun g c [a, b] [numN g a] W true) {d : Int} (hd : (T (2 ^ 2 - 1))[pinNum g [a, b] 0]? = some d) (hd0 : 0 ≤ d) (hle : d ≤ sumW c W) : sumW c W ≤ d := by
  have hkB : kB = 1048576 := rfl
  have ok := (goodF_of hg hc).ok
  have hgt : (grC g c).turn = 0 := ht
  have hga : (grC g c).agn = 0 := ha
  obtain ⟨k, hk, hkd⟩ := hD.low ok (by omega) hT 3 (by omega) (by omega) (pinNum g [a, b] 0) d hd hd0 1 (by omega) (by decide)
  obtain ⟨n, hw, hn⟩ := uw_way ok hgt hga hk.rev
  have e0 : pinNum g [a, b] 0 = numN g a := rfl
  have e1 : pinNum g [a, b] 1 = numN g b := rfl
  rw [e0, e1] at hw
  have hne : numN g b ∉ [numN g a] := fun hm => by
    simp at hm
    exact hab (numN_inj hg.sz (hpf a (by simp)).1 (hpf b (by simp)).1 hm.symm)
  cases h with
  | done hd => exact absurd (hd b (by simp)) hne
  | @step _ T' i p d' keys start l W' _ hp hw2 hr =>
    have hpb : p = b := by
      have hm := List.mem_of_getElem? hp.at_
      simp at hm
      rcases hm with h1 | h1
      · subst h1; exact absurd (by simp) hp.out
      · exact h1
    subst hpb
    have hs : start = numN g a := by have := hw2.mem; simpa using this
    subst hs
    have hall : ∀ q ∈ [a, p], numN g q ∈ T' := fun q hq => by
      rw [hw2.iff]
      simp only [List.mem_cons, List.not_mem_nil, or_false] at hq
      rcases hq with h1 | h1
      · subst h1; exact .inl (by simp)
      · subst h1; exact .inr (goes_end hw2.goal hw2.goes hw2.key)
    have hW : W' = [] := by
      cases hr with
      | done _ => rfl
      | step hp2 _ _ => exact absurd (hall _ (List.mem_of_getElem? hp2.at_)) hp2.out
    subst hW
    obtain ⟨kc, e, hst, hdk, _⟩ := hw2.goes.steps hw2.key
    have hfs := hw2.goal.free_of hw2.key hp.pos
    have hcost : costW c (cellsS g (3 * numN g a :: l)) = kc := by
      have := steps_cost hg hc hst hfs.1
      rw [show 3 * numN g a % 3 = 0 by omega] at this
      exact this
    have hflat := steps_flat ok hgt hga hst hfs.1
    have hlen := (goes_len hw2.goal hw2.goes hw2.key hp.pos).1
    have hlen' : (3 * numN g a :: l).length ≤ (grG g).N := hlen
    simp only [List.length_cons] at hlen'
    have hsum : sumW c [cellsS g (3 * numN g a :: l)] = kc := by unfold sumW; simp [hcost]
    rw [hsum] at hle ⊢
    rcases hw2.goal.isMin hw2.key with ⟨h1, _⟩ | ⟨_, _, h3⟩
    · have := hp.pos; omega
    · have := h3 k n hw
      rw [hdk, hkB] at this
      omega
end
theorem law_leastTreeIsLeast (g : Grid) (c : Costs) (pins : List Cell) : M_law_LeastTreeIsLeast g c pins (· = true) := by
  unfold M_law_LeastTreeIsLeast
  generalize hc0 : (⟨c.Step, c.Via, 0, 0⟩ : Costs) = c0
  have ht : c0.Turn = 0 := by rw [← hc0]
  have ha : c0.Against = 0 := by rw [← hc0]
  have bad : ∀ (y1 y3 : Int) y2 y4 y5, (y3 = 0 ∨ y1 = 0) → M_law_LeastTreeIsLeast_k1 g c pins (· = true) y1 y2 y3 y4 y5 true := fun y1 y3 y2 y4 y5 hh => by
    unfold M_law_LeastTreeIsLeast_k1
    simp only [cnd_true]
    refine cnd_of (fun _ => S_awake rfl) (fun e => cnd_of (fun _ => S_awake rfl) (fun e2 => ?_))
    simp at e e2; omega
  refine S_route_LeastTree (fun e => ?_) (fun e T hD hT d hd => ?_)
  · have fin : ∀ (y4 : List (List Cell)) (y5 : Bool) (y6 : Int), cnd (leastTF g c0 pins != 0) (M_law_LeastTreeIsLeast_k1 g c pins (· = true) 0 false (leastTF g c0 pins) y4 y5 true) (M_law_LeastTreeIsLeast_k1 g c pins (· = true) 0 false (leastTF g c0 pins) y4 y5 (y6 != 0)) := fun y4 y5 y6 => cnd_of (fun _ => bad _ _ _ _ _ (.inr rfl)) (fun e2 => absurd (by simpa using e2) e)
    exact S_route_Tree (fun _ => fin _ _ _) (fun _ W ok hr => fin _ _ _)
  have e' : bothF g c0 = 0 ∧ pinsF g pins (treeMost g) = 0 := by
    unfold leastTF at e
    split at e
    · rename_i e9; exact absurd e e9
    · rename_i e9; exact ⟨by simpa using e9, e⟩
  obtain ⟨hb, e3⟩ := e'
  obtain ⟨hg, hc⟩ := bothF_zero hb
  obtain ⟨hp0, hpm, hpn, hpf⟩ := pinsF_zero e3
  have hN4 : (grG g).N ≤ 400 ∧ pins.length ≤ 6 := by unfold treeMost at hpm; split at hpm <;> omega
  have hne : pinNum g pins 0 = numN g (pins.getD 0 default) := rfl
  have hx0 : pins[0]? = some (pins.getD 0 default) := by rw [List.getD_eq_getElem?_getD, List.getElem?_eq_getElem hp0]; rfl
  have hxg := hpf _ (List.mem_of_getElem? hx0)
  have hr0 := numN_lt hg.sz hxg.1
  -- what both answer
  have main : ∀ (y1 : Int) (y2 : Bool), (y2 = false ∧ d < 0 ∨ y2 = true ∧ 0 ≤ d ∧ y1 = d) → M_route_Tree g c0 pins fun y4 y5 y6 => cnd ((0 : Int) != 0) (M_law_LeastTreeIsLeast_k1 g c pins (· = true) y1 y2 0 y4 y5 true) (M_law_LeastTreeIsLeast_k1 g c pins (· = true) y1 y2 0 y4 y5 (y6 != 0)) := by
    intro y1 y2 hy
    refine S_route_Tree (fun e9 => ?_) (fun e9 W ok hr => ?_)
    · show cnd false _ _
      simp only [cnd_false]
      rw [show (treeF g c0 pins != 0) = true by simpa using e9]
      exact bad _ _ _ _ _ (.inl rfl)
    · show cnd false _ _
      simp only [cnd_false]
      have hlen := hr.len (by simp) (fun n hn => by simp at hn; subst hn; exact hr0)
      simp only [List.length_singleton] at hlen
      have hWle : (if ok = true then W else []).length ≤ 400 := by split <;> (try simp only [List.length_nil]) <;> omega
      have hright : ∀ w ∈ (if ok = true then W else []), wayF g w = 0 := fun w hw => by
        split at hw
        · exact hr.right hg hc w hw
        · cases hw
      generalize hV : (if ok = true then W else []) = V at hWle hright
      unfold M_law_LeastTreeIsLeast_k1
      show cnd false _ _
      simp only [cnd_false]
      refine forIn0 (fun k (n : Int) => n = sumW c0 (V.take k) ∧ 0 ≤ n ∧ n ≤ k * 120000000) ⟨by simp [sumW], Int.le_refl _, by simp⟩ (fun k w n hw hI next hnx => ?_) (fun n hI => ?_)
      · unfold M_law_LeastTreeIsLeast_L1
        rw [hc0]
        have hwr := hright w (List.mem_of_getElem? hw)
        have hcf : costOfF g c0 w = 0 := by unfold costOfF; rw [if_neg (by simp [hb])]; exact hwr
        have hcb := costW_bnd hg hc hwr
        have hk := lt_of_get hw
        refine S_CostOf ?_
        rw [hcf, if_neg (by decide)]
        show cnd false _ _
        simp only [cnd_false]
        rw [w64_id (n := n + costW c0 w) (by omega) (by omega)]
        exact hnx _ ⟨by rw [sumW_take hw, hI.1], by omega, by push_cast; omega⟩
      · rw [List.take_length] at hI
        have hn := hI.1
        show cnd (y2 == ok) _ _
        cases ok with
        | false =>
          have hy2 : y2 = false := by
            rcases hy with ⟨h1, _⟩ | ⟨_, h2, _⟩
            · exact h1
            · exfalso
              obtain ⟨q, hq, hno⟩ := hr.no_way rfl
              obtain ⟨j, hj, _, hje⟩ := pin_idx (g := g) hq
              have hA : 0 < 2 ^ pins.length - 1 := by have : 1 < 2 ^ pins.length := Nat.one_lt_two_pow (by omega); omega
              obtain ⟨k, hk, _⟩ := hD.low (goodF_of hg hc).ok hN4.2 hT (2 ^ pins.length - 1) hA (by omega) (pinNum g pins 0) d hd h2 j hj (by rw [Nat.testBit_two_pow_sub_one]; exact decide_eq_true hj)
              obtain ⟨n, hw, _⟩ := uw_way (goodF_of hg hc).ok (show (grC g c0).turn = 0 from ht) (show (grC g c0).agn = 0 from ha) hk.rev
              rw [hje] at hw
              exact hno (pinNum g pins 0) (List.mem_singleton.2 rfl) k n hw
          subst hy2
          show cnd true (cnd true _ _) _
          simp only [cnd_true]
          exact S_awake rfl
        | true =>
          simp only [if_true] at hV
          subst hV
          obtain ⟨t1, t2⟩ := tree_le hg hc ht ha hN4.2 hp0 hpn hpf hD hr hd
          have hy2 : y2 = true ∧ y1 = d := by
            rcases hy with ⟨_, h1⟩ | ⟨h1, _, h2⟩
            · omega
            · exact ⟨h1, h2⟩
          obtain ⟨rfl, rfl⟩ := hy2
          show cnd true (cnd false _ _) _
          simp only [cnd_true, cnd_false]
          rw [hn, decide_eq_true t2]
          simp only [cnd_true]
          refine cnd_of (fun _ => S_awake rfl) (fun e5 => ?_)
          have heq : y1 = sumW c0 W := by
            have hl2 : pins.length = 1 ∨ pins.length = 2 := by simp at e5; omega
            rcases hl2 with hl2 | hl2
            · obtain ⟨a, rfl⟩ : ∃ a, pins = [a] := by
                match pins, hl2 with
                | [a], _ => exact ⟨a, rfl⟩
              have : W = [] := by
                cases hr with
                | done _ => rfl
                | step hp _ _ =>
                  have hm := List.mem_of_getElem? hp.at_
                  simp at hm; subst hm
                  exact absurd (by simp [pinNum]) hp.out
              subst this
              have : sumW c0 [] = 0 := rfl
              omega
            · obtain ⟨a, b, rfl⟩ : ∃ a b, pins = [a, b] := by
                match pins, hl2 with
                | [a, b], _ => exact ⟨a, b, rfl⟩
              have hab : a ≠ b := by simp at hpn; exact hpn
              have := two_ge hg hc ht ha hN4.1 hab hpf hD hT hr hd t1 t2
              omega
          rw [show (y1 == sumW c0 W) = true by simpa using heq]
          simp only [cnd_true]
          exact S_awake rfl
  exact ⟨fun h1 => main 0 false (.inl ⟨rfl, h1⟩), fun h1 => main d true (.inr ⟨rfl, h1, rfl⟩)⟩
end Go.Proofs.Ytihjaehkdgdenaa
