/- Chapter texts of ours, as far as the claim needs them. -/
import Derived.Test.YtihjaehkdgdenaaGreatDoorRuA
import Derived.Test.YtihjaehkdgdenaaGreatDoorRtS
namespace Go.Proofs.YtihjaehkdgdenaaGreatDoor
open Go Go.RowKit
set_option linter.unusedVariables false
set_option linter.unusedSectionVars false
set_option linter.unusedSimpArgs false
section
variable {g : Grid} {c : Costs} {pins : List Cell}
theorem Kis.eq {G : Gr} {T T2 : List Nat} {n : Nat} {d d2 : Int} (h : Kis G T n d) (h2 : Kis G T2 n d2) (hT : ∀ a, a ∈ T ↔ a ∈ T2) : d = d2 :=
  Gr.IsMin.eq h h2 (fun c m => ⟨fun ⟨a, ha, hw⟩ => ⟨a, (hT a).1 ha, hw⟩, fun ⟨a, ha, hw⟩ => ⟨a, (hT a).2 ha, hw⟩⟩)
theorem TPick.eq {T T2 : List Nat} {i i2 : Nat} {p p2 : Cell} {d d2 : Int} (h : TPick g c pins T i p d) (h2 : TPick g c pins T2 i2 p2 d2) (hT : ∀ a, a ∈ T ↔ a ∈ T2) : i = i2 ∧ p = p2 ∧ d = d2 := by
  have mv : ∀ {T T2 : List Nat} {n : Nat} {K : Int}, (∀ a, a ∈ T ↔ a ∈ T2) → Kis (grC g c) T n K → Kis (grC g c) T2 n K := fun hT hk => by
    rcases hk with ⟨e, h1⟩ | ⟨h0, ⟨a1, m, ⟨a, ha, hw⟩, h3⟩, h4⟩
    · exact .inl ⟨e, fun c m ⟨a, ha, hw⟩ => h1 c m ⟨a, (hT a).2 ha, hw⟩⟩
    · exact .inr ⟨h0, ⟨a1, m, ⟨a, (hT a).1 ha, hw⟩, h3⟩, fun c m ⟨a, ha, hw⟩ => h4 c m ⟨a, (hT a).2 ha, hw⟩⟩
  have a1 := h.least i2 p2 d2 h2.at_ (fun hm => h2.out ((hT _).1 hm)) (mv (fun a => (hT a).symm) h2.key) h2.pos
  have a2 := h2.least i p d h.at_ (fun hm => h.out ((hT _).2 hm)) (mv hT h.key) h.pos
  have hi : i = i2 := by
    rcases Nat.lt_trichotomy i i2 with h3 | h3 | h3
    · have := a2.2 h3; omega
    · exact h3
    · have := a1.2 h3; omega
  subst hi
  have hp : p = p2 := by have := h.at_.symm.trans h2.at_; injection this
  subst hp
  exact ⟨rfl, rfl, h.key.eq h2.key hT⟩
theorem TWay.eq {T T2 : List Nat} {p : Cell} {d : Int} {keys keys2 : List Int} {start start2 : Nat} {l l2 T' T2' : List Nat} (h : TWay g c T p d keys start l T') (h2 : TWay g c T2 p d keys2 start2 l2 T2') (hT : ∀ a, a ∈ T ↔ a ∈ T2) : start = start2 ∧ l = l2 ∧ ∀ a, a ∈ T' ↔ a ∈ T2' := by
  have hk : keys = keys2 := h.goal.least.uniq h2.goal.least
  subst hk
  have hs : start = start2 := Nat.le_antisymm (h.first start2 ((hT _).2 h2.mem) h2.key) (h2.first start ((hT _).1 h.mem) h.key)
  subst hs
  have hl := h.goes.det h2.goes
  subst hl
  exact ⟨rfl, rfl, fun a => by rw [h.iff, h2.iff, hT]⟩
theorem TreeRun.det {T : List Nat} {W : List (List Cell)} {ok : Bool} (h : TreeRun g c pins T W ok) : ∀ {T2 : List Nat} {W2 : List (List Cell)} {ok2 : Bool}, TreeRun g c pins T2 W2 ok2 → (∀ a, a ∈ T ↔ a ∈ T2) → W = W2 ∧ ok = ok2 := by
  induction h with
  | done hd =>
    intro T2 W2 ok2 h2 hT
    cases h2 with
    | done _ => exact ⟨rfl, rfl⟩
    | fail hx _ => obtain ⟨p, hp, hn⟩ := hx; exact absurd ((hT _).1 (hd p hp)) hn
    | step hp _ _ => exact absurd ((hT _).1 (hd _ (List.mem_of_getElem? hp.at_))) hp.out
  | fail hx hall =>
    intro T2 W2 ok2 h2 hT
    cases h2 with
    | done hd => obtain ⟨p, hp, hn⟩ := hx; exact absurd ((hT _).2 (hd p hp)) hn
    | fail _ _ => exact ⟨rfl, rfl⟩
    | step hp _ _ =>
      have := (hall _ (List.mem_of_getElem? hp.at_) (fun hm => hp.out ((hT _).1 hm))).eq hp.key hT
      have := hp.pos; omega
  | step hp hw hr ih =>
    intro T2 W2 ok2 h2 hT
    cases h2 with
    | done hd => exact absurd ((hT _).2 (hd _ (List.mem_of_getElem? hp.at_))) hp.out
    | fail _ hall =>
      have := (hall _ (List.mem_of_getElem? hp.at_) (fun hm => hp.out ((hT _).2 hm))).eq hp.key (fun a => (hT a).symm)
      have := hp.pos; omega
    | step hp2 hw2 hr2 =>
      obtain ⟨e1, e2, e3⟩ := hp.eq hp2 hT
      subst e1; subst e2; subst e3
      obtain ⟨e4, e5, hT'⟩ := hw.eq hw2 hT
      subst e4; subst e5
      obtain ⟨e6, e7⟩ := ih hr2 hT'
      exact ⟨by rw [e6], e7⟩
end
end Go.Proofs.YtihjaehkdgdenaaGreatDoor
namespace Go.Proofs.YtihjaehkdgdenaaGreatDoor
open Go Go.RowKit
set_option linter.unusedVariables false
set_option linter.unusedSectionVars false
set_option linter.unusedSimpArgs false
theorem blocked_grid {g : Grid} (h0 : gridF g = 0) {M : List Cell} (hM : ∀ c ∈ M, inG g c = true) : gridF (blockedG g M) = 0 := by
  have hg := gridF_zero h0
  have hs := hg.sz
  obtain ⟨hS, hm⟩ := blockedL_srt hg hM
  have hN := hg.N
  have hlen : (blockedL g M).length ≤ (grG g).N := by
    unfold blockedL
    rw [List.length_map]
    have := List.length_filter_le (fun n => hasN g g.Blocked n || hasN g M n) (List.range (grG g).N)
    rw [List.length_range] at this; exact this
  unfold gridF at h0 ⊢
  split at h0; · cases h0
  rename_i e1
  split at h0; · cases h0
  rename_i e2
  have e1' : ¬ sizesOk (blockedG g M) = false := e1
  have e3 : ¬ g.W * g.H * g.Layers > 40000 := fun h => e2 (.inl h)
  rw [if_neg e1', if_neg (by
    rintro (h | h)
    · exact e3 h
    · have : ((blockedL g M).length : Int) > 40000 := h
      omega)]
  refine firstBad_none _ 0 fun j y hy => ?_
  rw [Nat.zero_add]
  have hy' : (blockedL g M)[j]? = some y := hy
  have hin := hS.2 y (List.mem_of_getElem? hy')
  have hin' : inG (blockedG g M) y = true := hin
  unfold gridBad
  rw [if_neg (by rw [hin']; decide)]
  refine if_neg ?_
  rintro ⟨hj, hle⟩
  have hp : (blockedL g M)[j - 1]? = some ((blockedL g M)[j - 1]'(by have := lt_of_get hy'; omega)) := List.getElem?_eq_getElem _
  have hpin := hS.2 _ (List.mem_of_getElem? hp)
  have e4 : (blockedG g M).Blocked.getD (j - 1) default = (blockedL g M)[j - 1]'(by have := lt_of_get hy'; omega) := by
    show (blockedL g M).getD (j - 1) default = _
    rw [List.getD_eq_getElem?_getD, hp]; rfl
  rw [e4] at hle
  have hle' : numI g y ≤ numI g ((blockedL g M)[j - 1]'(by have := lt_of_get hy'; omega)) := hle
  rw [numI_eq hs hin, numI_eq hs hpin] at hle'
  have hyl := lt_of_get hy'
  have hlt := List.pairwise_iff_getElem.1 hS.1 (j - 1) j (by omega) hyl (by omega)
  have e5 : (blockedL g M)[j] = y := by have := List.getElem?_eq_getElem hyl; rw [hy'] at this; injection this with this; exact this.symm
  rw [e5] at hlt
  omega
end Go.Proofs.YtihjaehkdgdenaaGreatDoor
