/- Chapter 7: a least way costs the least: the plain law. -/
import Derived.Test.YtihjaehkdgdenaaRtT3
import Derived.Test.YtihjaehkdgdenaaRtU
import Derived.Test.YtihjaehkdgdenaaRtS2
import Derived.Test.YtihjaehkdgdenaaRtJ
namespace Go.Proofs.Ytihjaehkdgdenaa
open Go Go.RowKit
set_option linter.unusedVariables false
set_option linter.unusedSimpArgs false

section
variable {g : Grid} {c : Costs}
/-- a least way is a right one, and costs the least -/
theorem way_right (hg : GOk g) (hc : COk c) {b : Nat} {out : List Int} (hT : (grC g c).ToGoal b out) {s : Nat} {d : Int} (hs3 : s % 3 = 0) (hd : out[s]? = some d) (h0 : 0 ≤ d) {l : List Nat} (hl : (grC g c).Goes out s l) :
    wayF g (cellsS g (s :: l)) = 0 ∧ costW c (cellsS g (s :: l)) = d / kB ∧ (cellsS g (s :: l)).getLast? = some (cellN g b) := by
  have hkB : kB = 1048576 := rfl
  obtain ⟨k, e, hst, hdk, he⟩ := hl.steps hd
  obtain ⟨hlen, hall⟩ := goes_len hT hl hd h0
  have hlen' : (s :: l).length ≤ (grG g).N := hlen
  have hN := hg.N
  have hsN : s < 3 * (grG g).N := (hall s List.mem_cons_self).1
  have hk := hst.cost hT.ok (hall s List.mem_cons_self).1
  have hfree : ∀ t ∈ s :: l, inG g (cellN g (t / 3)) = true ∧ cellN g (t / 3) ∉ g.Blocked := fun t ht => by
    obtain ⟨h1, h2⟩ := hall t ht
    have h1' : t / 3 < (grG g).N := by have : t < 3 * (grG g).N := h1; omega
    have hin := cellN_in hg.sz h1'
    refine ⟨hin, fun hb => ?_⟩
    have h3 : (noOf g).getD (t / 3) true = false := h2
    have h4 := noOf_cell hg hin
    rw [numN_cellN] at h4
    rw [List.getD_eq_getElem?_getD, h4] at h3
    simp [hb] at h3
  refine ⟨wayF_of hg (by simp [cellsS]) (fun x hx => ?_) (fun i x y hx hy => ?_) ?_, ?_, ?_⟩
  · obtain ⟨t, ht, rfl⟩ := List.mem_map.1 hx
    exact hfree t ht
  · unfold cellsS at hx hy
    rw [List.getElem?_map] at hx hy
    obtain ⟨t, ht, rfl⟩ := Option.map_eq_some_iff.1 hx
    obtain ⟨u, hu, rfl⟩ := Option.map_eq_some_iff.1 hy
    obtain ⟨k', hk'⟩ := steps_chain hst i t u ht hu
    have htN : t < 3 * (grG g).N := (hall t (List.mem_of_getElem? ht)).1
    exact (step_cost hg hc htN hk').1
  · have := hT.nodup hl hd h0
    rw [show cellsS g (s :: l) = ((s :: l).map (· / 3)).map (cellN g) by simp [cellsS]]
    exact List.pairwise_map.2 (this.imp (fun {x y} hne e => hne (by rw [← numN_cellN g x, e, numN_cellN])))
  · have := steps_cost hg hc hst hsN
    rw [hs3] at this
    show costGo c 0 (cellN g (s / 3)) (cellsS g l) = d / kB
    rw [show (((0 : Nat) : Int)) = 0 from rfl] at this
    rw [this, hdk, hkB]
    simp only [List.length_cons] at hlen'
    omega
  · have he3 := hT.end_ he
    have hlast : ∀ (l : List Nat) (s e : Nat) (k : Int), (grC g c).Steps s l k e → (s :: l).getLast (by simp) = e := by
      intro l s e k h
      induction h with
      | nil => rfl
      | cons _ hr ih => rw [List.getLast_cons (by simp)]; exact ih
    have h1 := hlast l s e k hst
    have h2 : (cellsS g (s :: l)).getLast? = some (cellN g (e / 3)) := by
      unfold cellsS; rw [List.getLast?_map, List.getLast?_eq_some_getLast (by simp), h1]; rfl
    rw [h2]
    congr 2
    simp at he3; omega
/-- no right way costs less than the least key says -/
theorem way_least (hg : GOk g) (hc : COk c) {b : Cell} (hb : inG g b = true ∧ b ∉ g.Blocked) {out : List Int} (hT : (grC g c).ToGoal (numN g b) out) {a : Cell} {w : List Cell} (hw : wayF g (a :: w) = 0) (he : (a :: w).getLast (by simp) = b) : ∃ d, out[3 * numN g a]? = some d ∧ 0 ≤ d ∧ d / kB ≤ costW c (a :: w) := by
  have hkB : kB = 1048576 := rfl
  obtain ⟨hl, _, hin, hch⟩ := way_ok hw
  have ha := hin a List.mem_cons_self
  obtain ⟨l, e, hst, hll, hee⟩ := way_steps hg hc w a 0 (by omega) ha.1 (fun x hx => hin x (List.mem_cons_of_mem _ hx)) hch
  rw [he] at hee
  rw [Nat.add_zero] at hst
  have hna := free_cell (c := c) hg ha
  have hs : 3 * numN g a < 3 * (grC g c).N := by have : numN g a < (grG g).N := hna.1; show _ < 3 * (grG g).N; omega
  have hwk := hst.walk hs (by rw [show 3 * numN g a / 3 = numN g a by omega]; exact hna.2) (S := [3 * numN g b, 3 * numN g b + 1, 3 * numN g b + 2]) (by simp; omega)
  obtain ⟨d, hd, h0, hle⟩ := hT.least.min _ _ _ hwk
  refine ⟨d, hd, h0, ?_⟩
  rw [hll] at hle
  simp only [List.length_cons] at hl
  show d / kB ≤ costGo c 0 a w
  rw [show (((0 : Nat) : Int)) = 0 from rfl] at hle
  rw [hkB] at hle ⊢
  omega
end
theorem law_wayLeast (g : Grid) (c : Costs) (a b : Cell) (other : List Cell) : M_law_WayLeast g c a b other (· = true) := by
  unfold M_law_WayLeast
  have none_ : M_law_WayLeast_k1 g c a b other (· = true) [] true := by
    unfold M_law_WayLeast_k1
    simp only [cnd_true]
    show cnd true _ _
    simp only [cnd_true]
    exact S_awake rfl
  refine S_Way (fun e => cnd_of (fun _ => none_) (fun e2 => absurd (by simpa using e2) e)) (fun e out hT d hd => ⟨fun hneg => ?_, fun hpos l hl => ?_⟩)
  · show cnd false _ _
    simp only [cnd_false]
    exact none_
  · obtain ⟨hg, hc, hcells⟩ := findF_zero e
    have ha := hcells a (by simp)
    have hb := hcells b (by simp)
    obtain ⟨w1, w2, w3⟩ := way_right hg hc hT (by omega) hd hpos hl
    rw [cellN_numN hg.sz hb.1] at w3
    have whead : cellsS g (3 * numN g a :: l) = a :: cellsS g l := by
      unfold cellsS; rw [List.map_cons, show 3 * numN g a / 3 = numN g a by omega, cellN_numN hg.sz ha.1]
    generalize hw : cellsS g (3 * numN g a :: l) = w at *
    have hboth : bothF g c = 0 := by
      unfold findF at e
      split at e
      · rename_i e2; exact absurd e e2
      · rename_i e2; simpa using e2
    have hcf : costOfF g c w = 0 := by unfold costOfF; rw [if_neg (by simp [hboth]), w1]
    have hwl := (way_ok w1).1
    show cnd false _ _
    simp only [cnd_false]
    unfold M_law_WayLeast_k1
    simp only [Bool.not_true, cnd_false]
    refine S_CostOf ?_
    rw [hcf, if_neg (by decide)]
    refine S_Least (fun e2 => absurd e e2) (fun _ out' d' hout' hd' => ?_)
    have := hT.least.uniq hout'
    subst this
    rw [hd] at hd'; injection hd' with hd'; subst hd'
    have eq2 : leastQ d = (d / kB, true) := by unfold leastQ; rw [if_neg (by omega)]
    rw [eq2, w2]
    show cnd false _ _
    simp only [cnd_false, bne_self_eq_false, Bool.not_true]
    have i0 : w[0]? = some a := by rw [whead]; rfl
    have ne : w ≠ [] := by rw [whead]; simp
    have il : w[w.length - 1]? = some b := by
      rw [← List.getLast?_eq_getElem?]; exact w3
    have hlp : 0 < w.length := List.length_pos_iff.2 ne
    refine idx_nat i0 ?_
    simp only [decide_true, Bool.not_true, cnd_false]
    rw [show w64 ((w.length : Int) - 1) = ((w.length - 1 : Nat) : Int) by rw [w64_id] <;> omega]
    refine idx_nat il ?_
    simp only [decide_true, Bool.not_true, cnd_false]
    refine S_awake ?_
    unfold M_law_WayLeast_k2
    simp only [Bool.not_true, cnd_false]
    -- any other way
    refine S_CostOf (cnd_of (fun _ => trivial) (fun e3 => ?_))
    have e4 : costOfF g c other = 0 := by simpa using e3
    rw [if_neg (by simp [e4])]
    have ew : wayF g other = 0 := by
      unfold costOfF at e4; rw [if_neg (by simp [hboth])] at e4; exact e4
    obtain ⟨ol, one_, oin, och⟩ := way_ok ew
    cases other with
    | nil => exact absurd rfl one_
    | cons x r =>
      have j0 : (x :: r)[0]? = some x := rfl
      refine idx_nat j0 (cnd_of (fun _ => trivial) (fun e5 => ?_))
      have ex : x = a := by simpa using e5
      have jl : (x :: r)[(x :: r).length - 1]? = some ((x :: r).getLast (by simp)) := by
        rw [← List.getLast?_eq_getElem?, List.getLast?_eq_some_getLast (by simp)]
      rw [show w64 (((x :: r).length : Int) - 1) = (((x :: r).length - 1 : Nat) : Int) by simp only [List.length_cons] at ol ⊢; rw [w64_id] <;> omega]
      refine idx_nat jl (cnd_of (fun _ => trivial) (fun e6 => ?_))
      have el : (x :: r).getLast (by simp) = b := by simpa using e6
      subst ex
      obtain ⟨d2, hd2, _, hle⟩ := way_least hg hc hb hT ew el
      rw [hd] at hd2; injection hd2 with hd2; subst hd2
      exact decide_eq_true hle
end Go.Proofs.Ytihjaehkdgdenaa
