/- Chapter 7: least costs of the reference, and reached cells: plain laws. -/
import Derived.Test.YtihjaehkdgdenaaRtR
import Derived.Test.YtihjaehkdgdenaaRtN3
import Derived.Test.YtihjaehkdgdenaaRtO
namespace Go.Proofs.Ytihjaehkdgdenaa
open Go Go.RowKit
set_option linter.unusedVariables false
set_option linter.unusedSimpArgs false

section
variable {g : Grid} {c : Costs}
theorem S_ref_Least {a b : Cell} {Q : Int → Bool → Int → Prop} (h1 : findF g c [a, b] ≠ 0 → Q 0 false (findF g c [a, b]))
    (h0 : findF g c [a, b] = 0 → ∀ out d, Least ((grC g c).E true) [3 * numN g b, 3 * numN g b + 1, 3 * numN g b + 2] (3 * (grG g).N) out → out[3 * numN g a]? = some d → Q (leastQ d).1 (leastQ d).2 0) : M_ref7_Least g c a b Q := by
  unfold M_ref7_Least
  refine S_askEnds (cnd_of (fun e => h1 (by simpa using e)) (fun e => ?_))
  have e' : findF g c [a, b] = 0 := by simpa using e
  obtain ⟨hg, hc, hl⟩ := findF_zero e'
  have ha := hl a (by simp)
  have hb := hl b (by simp)
  have hna := numN_lt hg.sz ha.1
  have hN := hg.N
  refine S_fieldOf hg hc hb.1 (fun best hf => ⟨fun hx => (by cases hx), fun x hx => ?_⟩)
  injection hx with hx; subst hx
  unfold M_field_from
  refine S_field_at (f := ⟨g, c, noOf g, best⟩) hg.sz ha.1 ?_
  rw [show w64 (3 * (numN g a : Int)) = ((3 * numN g a : Nat) : Int) by rw [w64_id] <;> omega]
  obtain ⟨w, hw, hk⟩ := fld_get hg hf (s := 3 * numN g a) (by omega)
  refine idx_nat hw ?_
  have := h0 e' _ _ hf.least hk
  rw [(kW_of (hf.val _ _ hw)).1] at this
  exact this
/-! ### reached cells -/
theorem S_keys_least {out : List Int} {n : Nat} (hn : 3 * n + 3 ≤ out.length) (hl : out.length ≤ 1000000) {Q : Int → Prop} (h : Q (Gr.leastK out n)) : M_keys_least out (n : Int) Q := by
  unfold M_keys_least
  rw [show w64 (3 * (n : Int)) = ((3 * n : Nat) : Int) by rw [w64_id] <;> omega, show w64 (((3 * n : Nat) : Int) + 3) = ((3 * n + 3 : Nat) : Int) by rw [w64_id] <;> omega]
  refine ⟨⟨by omega, by omega, by omega⟩, ?_⟩
  have hseg : seg out ((3 * n : Nat) : Int) ((3 * n + 3 : Nat) : Int) = [out.getD (3 * n) (-1), out.getD (3 * n + 1) (-1), out.getD (3 * n + 2) (-1)] := by
    have e : ∀ j, j < 3 → out[3 * n + j]? = some (out.getD (3 * n + j) (-1)) := fun j hj => by
      rw [List.getD_eq_getElem?_getD, List.getElem?_eq_getElem (show 3 * n + j < out.length by omega)]; rfl
    unfold seg
    apply List.ext_getElem?
    intro i
    simp only [Int.toNat_natCast]
    rw [List.getElem?_drop, List.getElem?_take]
    rcases (show i = 0 ∨ i = 1 ∨ i = 2 ∨ 3 ≤ i by omega) with rfl | rfl | rfl | hi
    · rw [if_pos (by omega), e 0 (by omega)]; rfl
    · rw [if_pos (by omega), e 1 (by omega)]; rfl
    · rw [if_pos (by omega), e 2 (by omega)]; rfl
    · rw [if_neg (by omega), List.getElem?_eq_none (by simpa using hi)]
  rw [hseg]
  have one : ∀ (k : Nat) (x b : Int) (next : Int → Prop), next (Gr.lk b x) → M_keys_least_L1 k x b next := fun k x b next hn => by
    unfold Gr.lk at hn
    unfold M_keys_least_L1 M_keys_least_k2
    refine cnd_of (fun e => cnd_of (fun e2 => ?_) (fun e2 => ?_)) (fun e => ?_)
    · simp only [cnd_true]; rw [if_pos ⟨by simpa using e, .inl (by simpa using e2)⟩] at hn; exact hn
    · refine cnd_of (fun e3 => ?_) (fun e3 => ?_)
      · rw [if_pos ⟨by simpa using e, .inr (by simpa using e3)⟩] at hn; exact hn
      · rw [if_neg (fun hh => by simp at e2 e3; omega)] at hn; exact hn
    · simp only [cnd_false]; rw [if_neg (fun hh => by simp at e; omega)] at hn; exact hn
  exact one 0 _ _ _ (one 1 _ _ _ (one 2 _ _ _ h))
/-- how many cells have a least key of a cost that is not more -/
def reachN (K : Nat → Int) (most : Int) (n : Nat) : Nat := ((List.range n).countP (fun i => decide (0 ≤ K i) && decide (K i / kB ≤ most)))
theorem reachN_succ (K : Nat → Int) (most : Int) (n : Nat) : reachN K most (n + 1) = reachN K most n + (if 0 ≤ K n ∧ K n / kB ≤ most then 1 else 0) := by
  unfold reachN
  rw [List.range_succ, List.countP_append, List.countP_singleton]
  congr 1
  simp only [Bool.and_eq_true, decide_eq_true_eq]
theorem reachN_le (K : Nat → Int) (most : Int) (n : Nat) : reachN K most n ≤ n := by
  have := List.countP_le_length (l := List.range n) (p := fun i => decide (0 ≤ K i) && decide (K i / kB ≤ most))
  rw [List.length_range] at this; exact this
theorem reachN_congr {K K' : Nat → Int} {most : Int} {n : Nat} (h : ∀ i, i < n → K i = K' i) : reachN K most n = reachN K' most n := by
  unfold reachN
  refine List.countP_congr (fun i hi => ?_)
  rw [h i (List.mem_range.1 hi)]
def reachF (g : Grid) (c : Costs) (a : Cell) (most : Int) : Int := if findF g c [a] ≠ 0 then findF g c [a] else if within most 0 100000000 = true then 0 else 1
theorem leastK_le (hg : GOk g) {S : List Nat} {out : List Int} (h : (grC g c).FromAll S out) (hS : ∀ s ∈ S.map (3 * ·), s < 3 * (grG g).N) {n : Nat} (hn : n < (grG g).N) : -1 ≤ Gr.leastK out n ∧ Gr.leastK out n ≤ 400000000000000 := by
  have hN := hg.N
  have hkB : kB = 1048576 := rfl
  rcases Gr.leastK_cases out n with ⟨h1, _⟩ | ⟨h1, ⟨j, hj, h2⟩, _⟩
  · omega
  · have hl : 3 * n + j < out.length := by rw [h.least.len]; show _ < 3 * (grG g).N; omega
    have hd : out[3 * n + j]? = some (Gr.leastK out n) := by
      rw [List.getD_eq_getElem?_getD, List.getElem?_eq_getElem hl] at h2
      rw [List.getElem?_eq_getElem hl]; exact congrArg some h2
    obtain ⟨k, m, w, e, h3, h4⟩ := h.least.way _ _ hd h1
    have hle := Wk.le (h.ok.good false) hS w
    have h5 : m < 3 * (grG g).N := h4
    rw [hkB] at e; omega
theorem S_Reach {a : Cell} {most : Int} {Q : Int → Int → Prop} (h1 : reachF g c a most ≠ 0 → Q 0 (reachF g c a most))
    (h0 : reachF g c a most = 0 → ∀ out, (grC g c).FromAll [numN g a] out → Q (reachN (Gr.leastK out) most (grG g).N : Nat) 0) : M_route_Reach g c a most Q := by
  unfold M_route_Reach
  unfold reachF at h1 h0
  refine S_find (fun e => ⟨fun _ => ?_, fun x hx => by cases hx⟩) (fun e => ⟨fun hx => (by cases hx), fun x hx => ?_⟩)
  · refine cnd_of (fun _ => ?_) (fun e2 => absurd (by simpa using e2) e)
    rw [if_pos e] at h1; exact h1 e
  · injection hx with hx; subst hx
    obtain ⟨hg, hc, hl⟩ := findF_zero e
    have ha := hl a (by simp)
    have hna := free_cell (c := c) hg ha
    have hN := hg.N
    rw [if_neg (by simp [e])] at h1 h0
    show cnd false _ _
    simp only [cnd_false]
    refine cnd_of (fun e2 => ?_) (fun e2 => ?_)
    · rw [if_neg (by simpa using e2)] at h1; exact h1 (by decide)
    · rw [if_pos (by simpa using e2)] at h0
      refine S_number hg.sz ha.1 ?_
      refine S_from (f := ⟨g, c, noOf g⟩) (S := [numN g a]) (goodF_of hg hc) (by simp) (fun s hs => by simp at hs; subst hs; exact hna.1) (fun out hout => ?_)
      have hF : (grC g c).FromAll [numN g a] out := fromAll_of hg hc (fun s hs => by simp at hs; subst hs; exact hna) hout
      have hlen : out.length = 3 * (grG g).N := hout.len
      have hnl : (noOf g).length = (grG g).N := by unfold noOf; simp
      refine forIn0 (fun k (n : Int) => n = (reachN (Gr.leastK out) most k : Nat)) (by simp [reachN]) (fun k x n hx hI next hn => ?_) (fun n hI => ?_)
      · have hk : k < (grG g).N := by rw [← hnl]; exact lt_of_get hx
        have hle := leastK_le hg hF (fun s hs => by simp at hs; omega) hk
        have hr := reachN_le (Gr.leastK out) most k
        have hkB : kB = 1048576 := rfl
        unfold M_route_Reach_L1 M_route_Reach_k2
        refine S_keys_least (by omega) (by omega) ?_
        subst hI
        refine cnd_of (fun e3 => ?_) (fun e3 => ?_)
        · have e3' : 0 ≤ Gr.leastK out k := by simpa using e3
          rw [show w64 ((Gr.leastK out k).tdiv 1048576) = Gr.leastK out k / kB by rw [Int.tdiv_eq_ediv_of_nonneg e3', hkB]; exact w64_id (by omega) (by omega)]
          refine cnd_of (fun e4 => hn _ ?_) (fun e4 => hn _ ?_)
          · rw [reachN_succ, if_pos ⟨e3', by simpa using e4⟩, w64_id] <;> omega
          · rw [reachN_succ, if_neg (fun hh => by simp at e4; omega)]; simp
        · simp only [cnd_false]
          exact hn _ (by rw [reachN_succ, if_neg (fun hh => by simp at e3; omega)]; simp)
      · rw [hnl] at hI; rw [hI]; exact h0 rfl out hF
theorem S_ref_Reach {a : Cell} {most : Int} {Q : Int → Int → Prop} (h1 : reachF g c a most ≠ 0 → Q 0 (reachF g c a most))
    (h0 : reachF g c a most = 0 → ∀ best, FldOk g c (numN g a) best → Q (reachN (fun i => (best.map kW).getD (3 * i) (-1)) most (grG g).N : Nat) 0) : M_ref7_Reach g c a most Q := by
  unfold M_ref7_Reach
  unfold reachF at h1 h0
  refine S_askEnds (cnd_of (fun e => ?_) (fun e => ?_))
  · have e' : findF g c [a] ≠ 0 := by simpa using e
    rw [if_pos e'] at h1; exact h1 e'
  · have e' : findF g c [a] = 0 := by simpa using e
    obtain ⟨hg, hc, hl⟩ := findF_zero e'
    have ha := hl a (by simp)
    have hN := hg.N
    rw [if_neg (by simp [e'])] at h1 h0
    refine cnd_of (fun e2 => ?_) (fun e2 => ?_)
    · rw [if_neg (by simpa using e2)] at h1; exact h1 (by decide)
    · rw [if_pos (by simpa using e2)] at h0
      refine S_fieldOf hg hc ha.1 (fun best hf => ⟨fun hx => (by cases hx), fun x hx => ?_⟩)
      injection hx with hx; subst hx
      have h0 := h0 rfl best hf
      generalize hK : (fun i => (best.map kW).getD (3 * i) (-1)) = K at h0
      refine lp_measN (fun m (s : Int × Int) => ∃ k : Nat, s.2 = (k : Int) ∧ k + m = (grG g).N ∧ s.1 = (reachN K most k : Nat)) (n := (grG g).N) ⟨0, rfl, by omega, by simp [reachN]⟩ ?_
      rintro m ⟨n, i⟩ X ⟨k, hk, hkm, hn⟩ hX
      simp only at hk hn
      subst hk; subst hn
      show M_ref7_Reach_L2 g most Q (noOf g, best) (fun n3 n4 => X (n3, n4)) _ k
      unfold M_ref7_Reach_L2
      rw [grid_w64 hg.sz, NN_eq hg.sz]
      have hr := reachN_le K most k
      refine cnd_of (fun e3 => ?_) (fun e3 => ?_)
      · have hkl : k < (grG g).N := by simpa using e3
        rw [show w64 (3 * (k : Int)) = ((3 * k : Nat) : Int) by rw [w64_id] <;> omega]
        obtain ⟨w, hw, hkw⟩ := fld_get hg hf (s := 3 * k) (by omega)
        have hKk : K k = kW w := by rw [← hK]; simp only; rw [List.getD_eq_getElem?_getD, hkw]; rfl
        obtain ⟨_, v1, v2⟩ := kW_of (hf.val _ _ hw)
        refine idx_nat hw ?_
        unfold M_ref7_Reach_k3
        have ek : w64 ((k : Int) + 1) = ((k + 1 : Nat) : Int) := by rw [w64_id] <;> omega
        rw [ek]
        have no : ¬ (0 ≤ K k ∧ K k / kB ≤ most) → X ((reachN K most k : Nat), ((k + 1 : Nat) : Int)) := fun hh => hX (m - 1) _ (by omega) ⟨k + 1, rfl, by omega, by rw [reachN_succ, if_neg hh]; simp⟩
        refine cnd_of (fun e4 => ?_) (fun e4 => ?_)
        · have e4' : 0 ≤ kW w := v1.1 (by simpa using e4)
          refine cnd_of (fun e5 => ?_) (fun e5 => ?_)
          · refine hX (m - 1) _ (by omega) ⟨k + 1, rfl, by omega, ?_⟩
            rw [reachN_succ, if_pos ⟨by rw [hKk]; exact e4', by rw [hKk, v2 e4']; simpa using e5⟩]
            simp only; rw [w64_id] <;> omega
          · exact no (fun hh => by rw [hKk, v2 e4'] at hh; simp at e5; omega)
        · simp only [cnd_false]
          exact no (fun hh => by rw [hKk] at hh; simp at e4; have := v1.2 hh.1; omega)
      · have hkl : k = (grG g).N := by simp at e3; omega
        subst hkl; exact h0
/-- onward from a cell, and back to it -/
theorem reach_same (hg : GOk g) (hc : COk c) {a : Cell} (ha : inG g a = true ∧ a ∉ g.Blocked) {out : List Int} (h : (grC g c).FromAll [numN g a] out) {best : List R7Worth} (hf : FldOk g c (numN g a) best) {n : Nat} (hn : n < (grG g).N) : Gr.leastK out n = (best.map kW).getD (3 * n) (-1) := by
  have hna := free_cell (c := c) hg ha
  obtain ⟨w, hw, hk⟩ := fld_get hg hf (s := 3 * n) (by omega)
  have hT : (grC g c).ToGoal (numN g a) (best.map kW) := ⟨(goodF_of hg hc).ok, hna.1, hna.2, hf.least⟩
  have i1 := h.isMin (n := n) hn
  have i2 := hT.isMin hk
  rw [Gr.getD_some hk]
  exact i1.eq i2 (fun k m => ⟨fun ⟨x, hx, hw⟩ => by simp at hx; subst hx; exact Gr.Way.rev hw, fun hw => ⟨_, List.mem_singleton.2 rfl, Gr.Way.rev hw⟩⟩)
end
end Go.Proofs.Ytihjaehkdgdenaa
