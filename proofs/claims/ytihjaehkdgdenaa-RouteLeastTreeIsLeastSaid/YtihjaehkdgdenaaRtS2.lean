/- Chapter 7: ways by their states are right ones. -/
import Derived.Test.YtihjaehkdgdenaaRtS
import Derived.Test.YtihjaehkdgdenaaRtI2
import Derived.Test.YtihjaehkdgdenaaRtU
namespace Go.Proofs.Ytihjaehkdgdenaa
open Go Go.RowKit
set_option linter.unusedVariables false
set_option linter.unusedSimpArgs false

section
variable {g : Grid} {c : Costs}
theorem steps_cost (hg : GOk g) (hc : COk c) {s e : Nat} {l : List Nat} {k : Int} (h : (grC g c).Steps s l k e) (hs : s < 3 * (grG g).N) : costGo c ((s % 3 : Nat) : Int) (cellN g (s / 3)) (cellsS g l) = k := by
  induction h with
  | nil => rfl
  | @cons s t k l k2 e he hr ih =>
    obtain ⟨_, h2⟩ := step_cost hg hc hs he
    have ht := (Gr.E_on (G := grC g c) hs he)
    obtain ⟨al, hnb, _⟩ := ht
    have := hnb.2.1
    have htl : t < 3 * (grG g).N := by have h9 : t / 3 < (grG g).N := hnb.2.1; omega
    have i := ih htl
    unfold cellsS at i ⊢
    rw [List.map_cons]
    unfold costGo
    rw [h2, i]
/-- cells that hang together, each free and once, are a right way -/
theorem wayF_of (hg : GOk g) {w : List Cell} (hne : w ≠ []) (hin : ∀ x ∈ w, inG g x = true ∧ x ∉ g.Blocked) (hch : ∀ (i : Nat) x y, w[i]? = some x → w[i + 1]? = some y → axC x y ≠ 0) (hnd : w.Nodup) : wayF g w = 0 := by
  have hl : w.length ≤ 40000 := by
    have := nodup_len (grG g).N (w.map (numN g)) (List.pairwise_map.2 (List.Pairwise.imp_of_mem (fun hx hy hne e => hne (numN_inj hg.sz (hin _ hx).1 (hin _ hy).1 e)) hnd)) (fun s hs => by
      obtain ⟨x, hx, rfl⟩ := List.mem_map.1 hs
      exact numN_lt hg.sz (hin x hx).1)
    rw [List.length_map] at this
    exact Nat.le_trans this hg.N
  unfold wayF
  rw [if_neg (by simpa using hne), if_neg (by omega)]
  refine firstBad_none w 0 (fun j x hx => ?_)
  rw [Nat.zero_add]
  have hm := List.mem_of_getElem? hx
  have hlt := lt_of_get hx
  unfold wayBad
  rw [if_neg (by simp [(hin x hm).1]), if_neg (hin x hm).2, if_neg, if_neg]
  · intro ht
    obtain ⟨i, hi⟩ := List.getElem?_of_mem ht
    rw [List.getElem?_take] at hi
    split at hi
    · rename_i hij
      have := (List.getElem?_inj (lt_of_get hi) hnd).1 (hi.trans hx.symm)
      omega
    · cases hi
  · rintro ⟨h0, h1⟩
    obtain ⟨i, rfl⟩ : ∃ i, j = i + 1 := ⟨j - 1, by omega⟩
    have hp := prev_get hx (by omega)
    exact hch i _ x hp hx h1
theorem way_ok {w : List Cell} (h : wayF g w = 0) : w.length ≤ 40000 ∧ w ≠ [] ∧ (∀ x ∈ w, inG g x = true ∧ x ∉ g.Blocked) ∧ ∀ (i : Nat) x y, w[i]? = some x → w[i + 1]? = some y → axC x y ≠ 0 := by
  obtain ⟨h1, h2, h3⟩ := cells_of_way h
  refine ⟨h1, h2, fun x hx => ?_, fun i x y hx hy => ?_⟩
  · obtain ⟨i, hi⟩ := List.getElem?_of_mem hx
    have := wayBad_in (h3 i x hi)
    exact ⟨this.1, this.2.1⟩
  · have := (wayBad_in (h3 (i + 1) y hy)).2.2.1 (by omega)
    rw [show i + 1 - 1 = i by omega, getD_of hx] at this
    exact this
/-- a right way's steps -/
theorem way_steps (hg : GOk g) (hc : COk c) : ∀ (w : List Cell) (a : Cell) (last : Nat), last < 3 → inG g a = true → (∀ x ∈ w, inG g x = true ∧ x ∉ g.Blocked) → (∀ (i : Nat) x y, (a :: w)[i]? = some x → (a :: w)[i + 1]? = some y → axC x y ≠ 0) →
    ∃ l e, (grC g c).Steps (3 * numN g a + last) l (costGo c (last : Int) a w) e ∧ l.length = w.length ∧ e / 3 = numN g ((a :: w).getLast (by simp))
  | [], a, last, hl, ha, _, _ => ⟨[], _, .nil, rfl, by simp only [List.getLast_singleton]; omega⟩
  | b :: r, a, last, hl, ha, hin, hch => by
    have hb := hin b List.mem_cons_self
    have hax := hch 0 a b rfl rfl
    have hna := numN_lt hg.sz ha
    have hnb := nb_axC hg.sz ha hb.1 hax
    have hno : (grC g c).no (numN g b) = false := by
      show (noOf g).getD (numN g b) true = false
      rw [List.getD_eq_getElem?_getD, noOf_cell hg hb.1]
      simp [hb.2]
    have hs : 3 * numN g a + last < 3 * (grC g c).N := by show _ < 3 * (grG g).N; omega
    have he := Gr.on_E (G := grC g c) (s := 3 * numN g a + last) (m := numN g b) (al := axC a b) hs (by rw [show (3 * numN g a + last) / 3 = numN g a by omega]; exact hnb) hno
    obtain ⟨_, h2⟩ := step_cost hg hc hs he
    have hal := Gr.Nb.ax hnb
    simp only [show (3 * numN g a + last) / 3 = numN g a by omega, show (3 * numN g a + last) % 3 = last by omega] at he h2
    rw [cellN_numN hg.sz ha] at h2
    generalize hj : (if axC a b = 3 then last else (axC a b).toNat) = j at he h2
    have hj3 : j < 3 := by rw [← hj]; split <;> omega
    rw [show (3 * numN g b + j) / 3 = numN g b by omega, show (3 * numN g b + j) % 3 = j by omega, cellN_numN hg.sz hb.1] at h2
    obtain ⟨l, e, i1, i2, i3⟩ := way_steps hg hc r b j hj3 hb.1 (fun x hx => hin x (List.mem_cons_of_mem _ hx)) (fun i x y hx hy => hch (i + 1) x y hx hy)
    refine ⟨(3 * numN g b + j) :: l, e, ?_, by simp [i2], ?_⟩
    · unfold costGo
      rw [h2]
      exact .cons he i1
    · rw [i3]; rfl
end
section
variable {g : Grid} {c : Costs}
/-- a least way is a right one, and costs the least -/
theorem way_right (hg : GOk g) (hc : COk c) {b : Nat} {out : List Int} (hT : (grC g c).ToGoal b out) {s : Nat} {d : Int} (hs3 : s % 3 = 0) (hd : out[s]? = some d) (h0 : 0 ≤ d) {l : List Nat} (hl : (grC g c).Goes out s l) :
    wayF g (cellsS g (s :: l)) = 0 ∧ costW c (cellsS g (s :: l)) = d / kB ∧ (cellsS g (s :: l)).getLast? = some (cellN g b) := by
  have hkB : kB = 1048576 := rfl
  obtain ⟨k, e, hst, hdk, he⟩ := hl.steps hd
  obtain ⟨hlen, hall⟩ := goes_len hT hl hd h0
  have hlen' : (s :: l).length ≤ (grG g).N := hlen
  have hN := hg.N
  have hsN : s < 3 * (grG g).N := (hall s List.mem_cons_self).1
  have hk := hst.cost hT.ok (hall s List.mem_cons_self).1
  have hfree : ∀ t ∈ s :: l, inG g (cellN g (t / 3)) = true ∧ cellN g (t / 3) ∉ g.Blocked := fun t ht => by
    obtain ⟨h1, h2⟩ := hall t ht
    have h1' : t / 3 < (grG g).N := by have : t < 3 * (grG g).N := h1; omega
    have hin := cellN_in hg.sz h1'
    refine ⟨hin, fun hb => ?_⟩
    have h3 : (noOf g).getD (t / 3) true = false := h2
    have h4 := noOf_cell hg hin
    rw [numN_cellN] at h4
    rw [List.getD_eq_getElem?_getD, h4] at h3
    simp [hb] at h3
  refine ⟨wayF_of hg (by simp [cellsS]) (fun x hx => ?_) (fun i x y hx hy => ?_) ?_, ?_, ?_⟩
  · obtain ⟨t, ht, rfl⟩ := List.mem_map.1 hx
    exact hfree t ht
  · unfold cellsS at hx hy
    rw [List.getElem?_map] at hx hy
    obtain ⟨t, ht, rfl⟩ := Option.map_eq_some_iff.1 hx
    obtain ⟨u, hu, rfl⟩ := Option.map_eq_some_iff.1 hy
    obtain ⟨k', hk'⟩ := steps_chain hst i t u ht hu
    have htN : t < 3 * (grG g).N := (hall t (List.mem_of_getElem? ht)).1
    exact (step_cost hg hc htN hk').1
  · have := hT.nodup hl hd h0
    rw [show cellsS g (s :: l) = ((s :: l).map (· / 3)).map (cellN g) by simp [cellsS]]
    exact List.pairwise_map.2 (this.imp (fun {x y} hne e => hne (by rw [← numN_cellN g x, e, numN_cellN])))
  · have := steps_cost hg hc hst hsN
    rw [hs3] at this
    show costGo c 0 (cellN g (s / 3)) (cellsS g l) = d / kB
    rw [show (((0 : Nat) : Int)) = 0 from rfl] at this
    rw [this, hdk, hkB]
    simp only [List.length_cons] at hlen'
    omega
  · have he3 := hT.end_ he
    have hlast : ∀ (l : List Nat) (s e : Nat) (k : Int), (grC g c).Steps s l k e → (s :: l).getLast (by simp) = e := by
      intro l s e k h
      induction h with
      | nil => rfl
      | cons _ hr ih => rw [List.getLast_cons (by simp)]; exact ih
    have h1 := hlast l s e k hst
    have h2 : (cellsS g (s :: l)).getLast? = some (cellN g (e / 3)) := by
      unfold cellsS; rw [List.getLast?_map, List.getLast?_eq_some_getLast (by simp), h1]; rfl
    rw [h2]
    congr 2
    simp at he3; omega
/-- no right way costs less than the least key says -/
theorem way_least (hg : GOk g) (hc : COk c) {b : Cell} (hb : inG g b = true ∧ b ∉ g.Blocked) {out : List Int} (hT : (grC g c).ToGoal (numN g b) out) {a : Cell} {w : List Cell} (hw : wayF g (a :: w) = 0) (he : (a :: w).getLast (by simp) = b) : ∃ d, out[3 * numN g a]? = some d ∧ 0 ≤ d ∧ d / kB ≤ costW c (a :: w) := by
  have hkB : kB = 1048576 := rfl
  obtain ⟨hl, _, hin, hch⟩ := way_ok hw
  have ha := hin a List.mem_cons_self
  obtain ⟨l, e, hst, hll, hee⟩ := way_steps hg hc w a 0 (by omega) ha.1 (fun x hx => hin x (List.mem_cons_of_mem _ hx)) hch
  rw [he] at hee
  rw [Nat.add_zero] at hst
  have hna := free_cell (c := c) hg ha
  have hs : 3 * numN g a < 3 * (grC g c).N := by have : numN g a < (grG g).N := hna.1; show _ < 3 * (grG g).N; omega
  have hwk := hst.walk hs (by rw [show 3 * numN g a / 3 = numN g a by omega]; exact hna.2) (S := [3 * numN g b, 3 * numN g b + 1, 3 * numN g b + 2]) (by simp; omega)
  obtain ⟨d, hd, h0, hle⟩ := hT.least.min _ _ _ hwk
  refine ⟨d, hd, h0, ?_⟩
  rw [hll] at hle
  simp only [List.length_cons] at hl
  show d / kB ≤ costGo c 0 a w
  rw [show (((0 : Nat) : Int)) = 0 from rfl] at hle
  rw [hkB] at hle ⊢
  omega
end
end Go.Proofs.Ytihjaehkdgdenaa
