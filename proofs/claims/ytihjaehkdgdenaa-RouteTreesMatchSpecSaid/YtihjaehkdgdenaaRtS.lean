/- Chapter texts of ours, as far as the claim needs them. -/
import Derived.Test.YtihjaehkdgdenaaRtH
import Derived.Test.YtihjaehkdgdenaaWalks
import Derived.Test.YtihjaehkdgdenaaWays
namespace Go.Proofs.Ytihjaehkdgdenaa
open Go Go.RowKit
set_option linter.unusedVariables false
set_option linter.unusedSimpArgs false
def cellN (g : Grid) (n : Nat) : Cell := ⟨((grG g).X n : Int), ((grG g).Y n : Int), ((grG g).Z n : Int)⟩
section
variable {g : Grid} {c : Costs} {n m : Nat}
theorem grG_w (hs : Sz g) : g.W = ((grG g).W : Int) := by have := hs.W; simp only [grG]; omega
theorem grG_h (hs : Sz g) : g.H = ((grG g).H : Int) := by have := hs.H; simp only [grG]; omega
theorem grG_l (hs : Sz g) : g.Layers = ((grG g).L : Int) := by have := hs.L; simp only [grG]; omega
theorem cellN_in (hs : Sz g) (hn : n < (grG g).N) : inG g (cellN g n) = true := by
  have hx := (grG g).X_lt hn
  have hy := (grG g).Y_lt hn
  have hz := (grG g).Z_lt hn
  refine inG_iff.2 ?_
  rw [grG_w hs, grG_h hs, grG_l hs]
  unfold cellN; simp only; omega
theorem numN_cellN (g : Grid) (n : Nat) : numN g (cellN g n) = n := by
  unfold numN cellN; simp only [Int.toNat_natCast]; exact (grG g).num_self n
theorem cellN_numN (hs : Sz g) {a : Cell} (ha : inG g a = true) : cellN g (numN g a) = a := by
  obtain ⟨a1, a2, a3⟩ := numN_xyz hs ha
  obtain ⟨hx, hy, hz⟩ := inG_iff.1 ha
  unfold cellN
  rw [a1, a2, a3, Int.toNat_of_nonneg hx.1, Int.toNat_of_nonneg hy.1, Int.toNat_of_nonneg hz.1]
theorem S_cell_at (hs : Sz g) (hn : n < (grG g).N) {Q : Cell → Prop} (h : Q (cellN g n)) : M_route_cell g (n : Int) Q := by
  have hW := hs.W; have hH := hs.H
  have hN := NN_le hs
  have hw := grG_w hs; have hh := grG_h hs
  have e0 : w64 ((n : Int).tdiv g.W) = ((n / (grG g).W : Nat) : Int) := by
    rw [hw, ← Int.ofNat_tdiv]; exact w64_nat (Nat.le_trans (Nat.div_le_self _ _) (by omega))
  unfold M_route_cell
  refine ⟨by omega, by omega, by omega, by omega, by omega, ?_⟩
  have e1 : (n : Int).tmod g.W = ((grG g).X n : Int) := by rw [hw, ← Int.ofNat_tmod]; rfl
  have e2 : (w64 ((n : Int).tdiv g.W)).tmod g.H = ((grG g).Y n : Int) := by rw [e0, hh, ← Int.ofNat_tmod]; rfl
  have e3 : w64 ((w64 ((n : Int).tdiv g.W)).tdiv g.H) = ((grG g).Z n : Int) := by
    rw [e0, hh, ← Int.ofNat_tdiv]; exact w64_nat (Nat.le_trans (Nat.div_le_self _ _) (Nat.le_trans (Nat.div_le_self _ _) (by omega)))
  rw [e1, e2, e3]; exact h
theorem axC_nb {al : Int} (h : (grG g).Nb n m al) : axC (cellN g n) (cellN g m) = al := by
  unfold axC df cellN
  simp only
  have h2 := h.2.2
  rcases h2 with ⟨rfl, h3, h4, h5⟩ | ⟨rfl, h3, h4, h5⟩ | ⟨rfl, h3, h4, h5⟩
  · rw [if_pos (by omega)]
  · rw [if_neg (by omega), if_pos (by omega)]
  · rw [if_neg (by omega), if_neg (by omega), if_pos (by omega)]
end
theorem Least.uniq {E : Nat → List (Nat × Int)} {S : List Nat} {N : Nat} {out out' : List Int} (h : Least E S N out) (h' : Least E S N out') : out = out' := by
  apply List.ext_getElem?
  intro i
  rcases Nat.lt_or_ge i N with hi | hi
  · have e1 : out[i]? = some (out[i]'(by rw [h.len]; exact hi)) := List.getElem?_eq_getElem _
    have e2 : out'[i]? = some (out'[i]'(by rw [h'.len]; exact hi)) := List.getElem?_eq_getElem _
    rw [e1, e2, h.eq h' (fun c n => Iff.rfl) e1 e2]
  · rw [List.getElem?_eq_none (by rw [h.len]; exact hi), List.getElem?_eq_none (by rw [h'.len]; exact hi)]
section
variable {g : Grid} {c : Costs}
theorem fromAll_of (hg : GOk g) (hc : COk c) {S : List Nat} (hS : ∀ a ∈ S, a < (grG g).N ∧ (grC g c).no a = false) {out : List Int} (h : Least ((grC g c).E false) (S.map (3 * ·)) (3 * (grC g c).N) out) : (grC g c).FromAll S out := ⟨(goodF_of hg hc).ok, hS, h⟩
theorem free_cell (hg : GOk g) {a : Cell} (ha : inG g a = true ∧ a ∉ g.Blocked) : numN g a < (grG g).N ∧ (grC g c).no (numN g a) = false := by
  refine ⟨numN_lt hg.sz ha.1, ?_⟩
  show (noOf g).getD (numN g a) true = false
  rw [List.getD_eq_getElem?_getD, noOf_cell hg ha.1]
  simp [ha.2]
theorem S_from {f : RouteFinder} (hf : GoodF f) {S : List Nat} (hnd : S.Nodup) (hlt : ∀ a ∈ S, a < (grOf f).N) {Q : List Int → Prop} (h : ∀ out, Least ((grOf f).E false) (S.map (3 * ·)) (3 * (grOf f).N) out → Q out) : M_finder_from f (S.map (fun n : Nat => (n : Int))) Q := by
  have hN := hf.N
  have hl : S.length ≤ (grOf f).N := nodup_len _ _ hnd hlt
  unfold M_finder_from
  refine forIn0 (fun k (l : List Int) => l = (S.take k).map (fun n : Nat => ((3 * n : Nat) : Int))) (by simp) (fun k x l hx hI next hn => ?_) (fun l hI => ?_)
  · rw [List.getElem?_map] at hx
    obtain ⟨n, hn2, rfl⟩ := Option.map_eq_some_iff.1 hx
    have hnl := hlt n (List.mem_of_getElem? hn2)
    have hk := lt_of_get hn2
    unfold M_finder_from_L1
    subst hI
    rw [show w64 (3 * (n : Int)) = ((3 * n : Nat) : Int) by rw [w64_id] <;> omega]
    refine ⟨room_of (by simp only [List.length_append, List.length_map, List.length_take, List.length_singleton]; omega) (by decide), hn _ ?_⟩
    rw [List.take_add_one, hn2, List.map_append]; rfl
  · have := S_search (f := f) (back := false) (Sn := S.map (3 * ·)) hf (List.pairwise_map.2 (hnd.imp (fun h e => h (by omega)))) (fun s hs => by obtain ⟨a, ha, rfl⟩ := List.mem_map.1 hs; have := hlt a ha; omega) h
    rw [List.map_map] at this
    rw [List.length_map, List.take_length] at hI
    rw [hI]; exact this
end
end Go.Proofs.Ytihjaehkdgdenaa
namespace Go.Proofs.Ytihjaehkdgdenaa
open Go Go.RowKit
set_option linter.unusedVariables false
set_option linter.unusedSimpArgs false
section
variable {g : Grid} {c : Costs}
theorem step_cost (hg : GOk g) (hc : COk c) {s t : Nat} {k : Int} (hs : s < 3 * (grG g).N) (h : (t, k) ∈ (grC g c).E false s) :
    axC (cellN g (s / 3)) (cellN g (t / 3)) ≠ 0 ∧ stepC c (cellN g (t / 3)).Layer ((s % 3 : Nat) : Int) (axC (cellN g (s / 3)) (cellN g (t / 3))) = (k, ((t % 3 : Nat) : Int)) := by
  obtain ⟨al, hnb, hm, h1, h2⟩ := Gr.E_on (G := grC g c) hs h
  have hax := Gr.Nb.ax hnb
  have ea : axC (cellN g (s / 3)) (cellN g (t / 3)) = al := axC_nb hnb
  rw [ea]
  refine ⟨by omega, ?_⟩
  by_cases h3 : al = 3
  · rw [if_pos h3] at h1 h2
    unfold stepC
    rw [if_pos h3, h1, h2]; rfl
  · rw [if_neg h3] at h1 h2
    have := stepC_gr (goodF_of hg hc) (n := t / 3) (last := ((s % 3 : Nat) : Int)) h3
    show stepC c ((grC g c).Z (t / 3) : Int) _ _ = _
    rw [show stepC c ((grC g c).Z (t / 3) : Int) ((s % 3 : Nat) : Int) al = _ from this, h1, h2]
    refine Prod.ext rfl ?_
    simp only; omega
def cellsS (g : Grid) (l : List Nat) : List Cell := l.map (fun s => cellN g (s / 3))
theorem steps_chain {G : Gr} {s e : Nat} {l : List Nat} {k : Int} (h : G.Steps s l k e) : ∀ (i x y : Nat), (s :: l)[i]? = some x → (s :: l)[i + 1]? = some y → ∃ k, (y, k) ∈ G.E false x := by
  induction h with
  | nil => intro i x y hx hy; simp at hy
  | @cons s t k l k2 e he hr ih =>
    intro i x y hx hy
    cases i with
    | zero => simp at hx hy; subst hx; subst hy; exact ⟨k, he⟩
    | succ i => simp at hx hy; exact ih i x y (by simpa using hx) (by simpa using hy)
end
end Go.Proofs.Ytihjaehkdgdenaa
