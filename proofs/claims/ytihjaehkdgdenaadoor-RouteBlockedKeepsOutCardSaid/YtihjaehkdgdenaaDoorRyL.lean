/- Chapter texts of ours, as far as the claim needs them. -/
import Derived.Test.YtihjaehkdgdenaaDoorRyI
import Derived.Test.YtihjaehkdgdenaaDoorRyK
namespace Go.Proofs.YtihjaehkdgdenaaDoor
open Go Go.RowKit
set_option linter.unusedVariables false
set_option linter.unusedSectionVars false
set_option linter.unusedSimpArgs false
theorem blocked_grid {g : Grid} (h0 : gridF g = 0) {M : List Cell} (hM : ∀ c ∈ M, inG g c = true) : gridF (blockedG g M) = 0 := by
  have hg := gridF_zero h0
  have hs := hg.sz
  obtain ⟨hS, hm⟩ := blockedL_srt hg hM
  have hN := hg.N
  have hlen : (blockedL g M).length ≤ (grG g).N := by
    unfold blockedL
    rw [List.length_map]
    have := List.length_filter_le (fun n => hasN g g.Blocked n || hasN g M n) (List.range (grG g).N)
    rw [List.length_range] at this; exact this
  unfold gridF at h0 ⊢
  split at h0; · cases h0
  rename_i e1
  split at h0; · cases h0
  rename_i e2
  have e1' : ¬ sizesOk (blockedG g M) = false := e1
  have e3 : ¬ g.W * g.H * g.Layers > 40000 := fun h => e2 (.inl h)
  rw [if_neg e1', if_neg (by
    rintro (h | h)
    · exact e3 h
    · have : ((blockedL g M).length : Int) > 40000 := h
      omega)]
  refine firstBad_none _ 0 fun j y hy => ?_
  rw [Nat.zero_add]
  have hy' : (blockedL g M)[j]? = some y := hy
  have hin := hS.2 y (List.mem_of_getElem? hy')
  have hin' : inG (blockedG g M) y = true := hin
  unfold gridBad
  rw [if_neg (by rw [hin']; decide)]
  refine if_neg ?_
  rintro ⟨hj, hle⟩
  have hp : (blockedL g M)[j - 1]? = some ((blockedL g M)[j - 1]'(by have := lt_of_get hy'; omega)) := List.getElem?_eq_getElem _
  have hpin := hS.2 _ (List.mem_of_getElem? hp)
  have e4 : (blockedG g M).Blocked.getD (j - 1) default = (blockedL g M)[j - 1]'(by have := lt_of_get hy'; omega) := by
    show (blockedL g M).getD (j - 1) default = _
    rw [List.getD_eq_getElem?_getD, hp]; rfl
  rw [e4] at hle
  have hle' : numI g y ≤ numI g ((blockedL g M)[j - 1]'(by have := lt_of_get hy'; omega)) := hle
  rw [numI_eq hs hin, numI_eq hs hpin] at hle'
  have hyl := lt_of_get hy'
  have hlt := List.pairwise_iff_getElem.1 hS.1 (j - 1) j (by omega) hyl (by omega)
  have e5 : (blockedL g M)[j] = y := by have := List.getElem?_eq_getElem hyl; rw [hy'] at this; injection this with this; exact this.symm
  rw [e5] at hlt
  omega
theorem way_denied {g : Grid} {w : List Cell} (h : wayF g w = 0) {B : List Cell} (hB : ∀ c ∈ w, c ∈ B) : wayF ⟨g.W, g.H, g.Layers, B⟩ w = 14 := by
  obtain ⟨h1, h2, h3⟩ := cells_of_way h
  obtain ⟨f, w', rfl⟩ : ∃ f w', w = f :: w' := by cases w with | nil => exact absurd rfl h2 | cons f w' => exact ⟨f, w', rfl⟩
  have hin := (wayBad_in (h3 0 f rfl)).1
  unfold wayF
  rw [if_neg (by simp), if_neg (by omega)]
  have e : wayBad ⟨g.W, g.H, g.Layers, B⟩ (f :: w') 0 f = 14 := by
    unfold wayBad
    have hin' : inG ⟨g.W, g.H, g.Layers, B⟩ f = true := hin
    rw [if_neg (by rw [hin']; decide), if_pos (hB f (List.mem_cons_self ..))]
  have := firstBad_at (f := wayBad ⟨g.W, g.H, g.Layers, B⟩ (f :: w')) (f :: w') 0 0 f (fun j y hj => by omega) rfl (by rw [Nat.zero_add, e]; decide)
  rw [this, Nat.zero_add, e]
theorem law_Keeps_true (g : Grid) (c : Costs) (t : List Task) (r : List Routed) (from_ : Cell) : M_law_Keeps g c t r from_ (· = true) := by
  unfold M_law_Keeps
  refine S_route_Blocked ?_
  split
  · rename_i e
    refine cnd_of (fun _ => cnd_of (fun _ => S_awake rfl) (fun e' => by simp at e')) (fun e' => ?_)
    exact absurd (by simpa using e') e
  · rename_i e
    have e0 : routedF g t r = 0 := Decidable.not_not.1 e
    obtain ⟨ok, hrl, hall⟩ := routed_all e0
    have hgf : gridF g = 0 := by
      unfold routedF at e0
      split at e0
      · rename_i h1; exact absurd e0 h1
      · rename_i h1
        have h2 : tasksF g t = 0 := Decidable.not_not.1 h1
        unfold tasksF at h2
        split at h2
        · rename_i h3; exact absurd h2 h3
        · rename_i h3; exact Decidable.not_not.1 h3
    have hM : ∀ c ∈ moreC t r, inG g c = true := fun c hc => (moreC_in e0 c hc).1
    have hb := blocked_grid hgf hM
    have hmem := (blockedL_srt ok.gok hM).2
    refine cnd_of (fun e' => by simp at e') (fun _ => ?_)
    refine forIn0 (fun _ (_ : Unit) => True) trivial (fun k x _ hx _ next hn => ?_) (fun _ _ => S_CheckGrid ?_)
    · obtain ⟨y, hR⟩ := hall k x hx
      unfold M_law_Keeps_L1
      refine forIn0 (fun _ (_ : Unit) => True) trivial (fun j w _ hw _ nx hnn => ?_) (fun _ _ => hn _ trivial)
      have hwm := List.mem_of_getElem? hw
      have hwf := hR.ways w hwm
      have hcells : ∀ c ∈ w, c ∈ blockedL g (moreC t r) := fun c hc => (hmem c).2 (.inr (by
        refine List.mem_flatMap.2 ⟨x, List.mem_of_getElem? hx, ?_⟩
        rw [rCells_some hR.task]
        exact List.mem_append_right _ (List.mem_flatten.2 ⟨w, hwm, hc⟩)))
      unfold M_law_Keeps_L2
      refine S_CheckWay ?_
      unfold checkWayF
      rw [if_neg (by rw [hb]; decide)]
      have hd : wayF (blockedG g (moreC t r)) w = 14 := way_denied hwf hcells
      rw [hd]
      refine cnd_of (fun e' => by simp at e') (fun _ => ?_)
      obtain ⟨f, w', rfl⟩ : ∃ f w', w = f :: w' := by cases w with | nil => exact absurd rfl (wayF_len hwf).2 | cons f w' => exact ⟨f, w', rfl⟩
      refine idx_nat (i := 0) (x := f) rfl ?_
      unfold M_route_Way
      refine S_find (fun ef => ⟨fun _ => cnd_of (fun _ => cnd_of (fun e9 => absurd (by simpa using e9) ef) (fun _ => hnn _ trivial)) (fun e9 => absurd (by simpa using e9) ef), fun x hx => by cases hx⟩) (fun ef => ?_)
      have := ((findF_zero ef).2.2 f (by simp)).2
      exact absurd (hcells f (List.mem_cons_self ..)) this
    · rw [hb]
      exact cnd_of (fun _ => S_awake rfl) (fun e' => by simp at e')
end Go.Proofs.YtihjaehkdgdenaaDoor
