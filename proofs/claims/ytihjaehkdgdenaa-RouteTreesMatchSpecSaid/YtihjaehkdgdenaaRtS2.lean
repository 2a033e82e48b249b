/- Chapter texts of ours, as far as the claim needs them. -/
import Derived.Test.YtihjaehkdgdenaaRtH
import Derived.Test.YtihjaehkdgdenaaRtG
import Derived.Test.YtihjaehkdgdenaaRtS
import Derived.Test.YtihjaehkdgdenaaRtU
namespace Go.Proofs.Ytihjaehkdgdenaa
open Go Go.RowKit
set_option linter.unusedVariables false
set_option linter.unusedSimpArgs false
def wayBad (g : Grid) (w : List Cell) (k : Nat) (x : Cell) : Int :=
  if inG g x = false then 1 else if x ∈ g.Blocked then 14 else if 0 < k ∧ axC (w.getD (k - 1) default) x = 0 then 3 else if x ∈ w.take k then 7 else 0
def wayF (g : Grid) (w : List Cell) : Int := if w.length = 0 then 9 else if w.length > 40000 then 2 else firstBad (wayBad g w) w 0
def costGo (c : Costs) : Int → Cell → List Cell → Int
  | _, _, [] => 0
  | last, a, b :: r => (stepC c b.Layer last (axC a b)).1 + costGo c (stepC c b.Layer last (axC a b)).2 b r
def costW (c : Costs) : List Cell → Int
  | [] => 0
  | a :: r => costGo c 0 a r
end Go.Proofs.Ytihjaehkdgdenaa
namespace Go.Proofs.Ytihjaehkdgdenaa
open Go Go.RowKit
set_option linter.unusedVariables false
set_option linter.unusedSimpArgs false
section
variable {g : Grid} {c : Costs}
theorem steps_cost (hg : GOk g) (hc : COk c) {s e : Nat} {l : List Nat} {k : Int} (h : (grC g c).Steps s l k e) (hs : s < 3 * (grG g).N) : costGo c ((s % 3 : Nat) : Int) (cellN g (s / 3)) (cellsS g l) = k := by
  induction h with
  | nil => rfl
  | @cons s t k l k2 e he hr ih =>
    obtain ⟨_, h2⟩ := step_cost hg hc hs he
    have ht := (Gr.E_on (G := grC g c) hs he)
    obtain ⟨al, hnb, _⟩ := ht
    have := hnb.2.1
    have htl : t < 3 * (grG g).N := by have h9 : t / 3 < (grG g).N := hnb.2.1; omega
    have i := ih htl
    unfold cellsS at i ⊢
    rw [List.map_cons]
    unfold costGo
    rw [h2, i]
theorem wayF_of (hg : GOk g) {w : List Cell} (hne : w ≠ []) (hin : ∀ x ∈ w, inG g x = true ∧ x ∉ g.Blocked) (hch : ∀ (i : Nat) x y, w[i]? = some x → w[i + 1]? = some y → axC x y ≠ 0) (hnd : w.Nodup) : wayF g w = 0 := by
  have hl : w.length ≤ 40000 := by
    have := nodup_len (grG g).N (w.map (numN g)) (List.pairwise_map.2 (List.Pairwise.imp_of_mem (fun hx hy hne e => hne (numN_inj hg.sz (hin _ hx).1 (hin _ hy).1 e)) hnd)) (fun s hs => by
      obtain ⟨x, hx, rfl⟩ := List.mem_map.1 hs
      exact numN_lt hg.sz (hin x hx).1)
    rw [List.length_map] at this
    exact Nat.le_trans this hg.N
  unfold wayF
  rw [if_neg (by simpa using hne), if_neg (by omega)]
  refine firstBad_none w 0 (fun j x hx => ?_)
  rw [Nat.zero_add]
  have hm := List.mem_of_getElem? hx
  have hlt := lt_of_get hx
  unfold wayBad
  rw [if_neg (by simp [(hin x hm).1]), if_neg (hin x hm).2, if_neg, if_neg]
  · intro ht
    obtain ⟨i, hi⟩ := List.getElem?_of_mem ht
    rw [List.getElem?_take] at hi
    split at hi
    · rename_i hij
      have := (List.getElem?_inj (lt_of_get hi) hnd).1 (hi.trans hx.symm)
      omega
    · cases hi
  · rintro ⟨h0, h1⟩
    obtain ⟨i, rfl⟩ : ∃ i, j = i + 1 := ⟨j - 1, by omega⟩
    have hp := prev_get hx (by omega)
    exact hch i _ x hp hx h1
end
section
variable {g : Grid} {c : Costs}
theorem way_right (hg : GOk g) (hc : COk c) {b : Nat} {out : List Int} (hT : (grC g c).ToGoal b out) {s : Nat} {d : Int} (hs3 : s % 3 = 0) (hd : out[s]? = some d) (h0 : 0 ≤ d) {l : List Nat} (hl : (grC g c).Goes out s l) :
    wayF g (cellsS g (s :: l)) = 0 ∧ costW c (cellsS g (s :: l)) = d / kB ∧ (cellsS g (s :: l)).getLast? = some (cellN g b) := by
  have hkB : kB = 1048576 := rfl
  obtain ⟨k, e, hst, hdk, he⟩ := hl.steps hd
  obtain ⟨hlen, hall⟩ := goes_len hT hl hd h0
  have hlen' : (s :: l).length ≤ (grG g).N := hlen
  have hN := hg.N
  have hsN : s < 3 * (grG g).N := (hall s List.mem_cons_self).1
  have hk := hst.cost hT.ok (hall s List.mem_cons_self).1
  have hfree : ∀ t ∈ s :: l, inG g (cellN g (t / 3)) = true ∧ cellN g (t / 3) ∉ g.Blocked := fun t ht => by
    obtain ⟨h1, h2⟩ := hall t ht
    have h1' : t / 3 < (grG g).N := by have : t < 3 * (grG g).N := h1; omega
    have hin := cellN_in hg.sz h1'
    refine ⟨hin, fun hb => ?_⟩
    have h3 : (noOf g).getD (t / 3) true = false := h2
    have h4 := noOf_cell hg hin
    rw [numN_cellN] at h4
    rw [List.getD_eq_getElem?_getD, h4] at h3
    simp [hb] at h3
  refine ⟨wayF_of hg (by simp [cellsS]) (fun x hx => ?_) (fun i x y hx hy => ?_) ?_, ?_, ?_⟩
  · obtain ⟨t, ht, rfl⟩ := List.mem_map.1 hx
    exact hfree t ht
  · unfold cellsS at hx hy
    rw [List.getElem?_map] at hx hy
    obtain ⟨t, ht, rfl⟩ := Option.map_eq_some_iff.1 hx
    obtain ⟨u, hu, rfl⟩ := Option.map_eq_some_iff.1 hy
    obtain ⟨k', hk'⟩ := steps_chain hst i t u ht hu
    have htN : t < 3 * (grG g).N := (hall t (List.mem_of_getElem? ht)).1
    exact (step_cost hg hc htN hk').1
  · have := hT.nodup hl hd h0
    rw [show cellsS g (s :: l) = ((s :: l).map (· / 3)).map (cellN g) by simp [cellsS]]
    exact List.pairwise_map.2 (this.imp (fun {x y} hne e => hne (by rw [← numN_cellN g x, e, numN_cellN])))
  · have := steps_cost hg hc hst hsN
    rw [hs3] at this
    show costGo c 0 (cellN g (s / 3)) (cellsS g l) = d / kB
    rw [show (((0 : Nat) : Int)) = 0 from rfl] at this
    rw [this, hdk, hkB]
    simp only [List.length_cons] at hlen'
    omega
  · have he3 := hT.end_ he
    have hlast : ∀ (l : List Nat) (s e : Nat) (k : Int), (grC g c).Steps s l k e → (s :: l).getLast (by simp) = e := by
      intro l s e k h
      induction h with
      | nil => rfl
      | cons _ hr ih => rw [List.getLast_cons (by simp)]; exact ih
    have h1 := hlast l s e k hst
    have h2 : (cellsS g (s :: l)).getLast? = some (cellN g (e / 3)) := by
      unfold cellsS; rw [List.getLast?_map, List.getLast?_eq_some_getLast (by simp), h1]; rfl
    rw [h2]
    congr 2
    simp at he3; omega
end
end Go.Proofs.Ytihjaehkdgdenaa
