/- Chapter texts of ours, as far as the claim needs them. -/
import Derived.Test.YtihjaehkdgdenaaDoorRyH
import Derived.Test.YtihjaehkdgdenaaDoorRyB
import Derived.Test.YtihjaehkdgdenaaDoorRyA
import Derived.Test.YtihjaehkdgdenaaDoorRtG
import Derived.Test.YtihjaehkdgdenaaDoorRtC
import Derived.Test.YtihjaehkdgdenaaDoorRtQ0
import Derived.Test.YtihjaehkdgdenaaDoorRtJ
namespace Go.Proofs.YtihjaehkdgdenaaDoor
open Go Go.RowKit
set_option linter.unusedVariables false
set_option linter.unusedSectionVars false
set_option linter.unusedSimpArgs false
theorem routed_all {g : Grid} {t : List Task} {r : List Routed} (h : routedF g t r = 0) : TOk g t ∧ r.length ≤ 100 ∧ ∀ k x, r[k]? = some x → ∃ y, ROk g t r k x y := by
  unfold routedF at h
  split at h
  · rename_i h1; exact absurd h h1
  rename_i h1
  split at h
  · cases h
  rename_i h2
  exact ⟨tasks_ok (Decidable.not_not.1 h1), by omega, fun k x hx => routed_ok (firstBad_ok h k x hx)⟩
def moreC (t : List Task) (r : List Routed) : List Cell := r.flatMap (rCells t)
def hasN (g : Grid) (L : List Cell) (n : Nat) : Bool := L.any (fun c => decide (numN g c = n))
theorem hasN_append (g : Grid) (L M : List Cell) (n : Nat) : hasN g (L ++ M) n = (hasN g L n || hasN g M n) := by unfold hasN; rw [List.any_append]
def blockedL (g : Grid) (M : List Cell) : List Cell := ((List.range (grG g).N).filter (fun n => hasN g g.Blocked n || hasN g M n)).map (cellN g)
def blockedG (g : Grid) (M : List Cell) : Grid := ⟨g.W, g.H, g.Layers, blockedL g M⟩
theorem rCells_in {g : Grid} {t : List Task} (ok : TOk g t) {r : List Routed} {k : Nat} {x : Routed} {y : Task} (hR : ROk g t r k x y) : ∀ c ∈ rCells t x, inG g c = true ∧ c ∉ g.Blocked := by
  intro c hc
  rw [rCells_some hR.task] at hc
  rcases List.mem_append.1 hc with h1 | h1
  · obtain ⟨i, _, hit, _⟩ := task_some hR.task
    exact (ok.pins y (List.mem_of_getElem? hit)).2.2.2 c h1
  · obtain ⟨w, hw, hcw⟩ := List.mem_flatten.1 h1
    obtain ⟨i, hi⟩ := List.getElem?_of_mem hcw
    have := wayBad_in ((cells_of_way (hR.ways w hw)).2.2 i c hi)
    exact ⟨this.1, this.2.1⟩
def Mk (g : Grid) (A : List Cell) (l : List Bool) : Prop := l.length = (grG g).N ∧ ∀ n, n < (grG g).N → l[n]? = some (hasN g g.Blocked n || hasN g A n)
theorem Mk.set {g : Grid} (hs : Sz g) {A : List Cell} {l : List Bool} (h : Mk g A l) {c : Cell} (hc : inG g c = true) : Mk g (A ++ [c]) (l.set (numN g c) true) := by
  have hl := numN_lt hs hc
  refine ⟨by rw [List.length_set]; exact h.1, fun n hn => ?_⟩
  rw [set_get' (by rw [h.1]; exact hl), hasN_append]
  by_cases e : n = numN g c
  · subst e
    rw [if_pos rfl]
    have : hasN g [c] (numN g c) = true := by unfold hasN; simp
    rw [this, Bool.or_true, Bool.or_true]
  · rw [if_neg e, h.2 n hn]
    have : hasN g [c] n = false := by unfold hasN; simp; exact fun h => e h.symm
    rw [this, Bool.or_false]
theorem S_marks {g : Grid} (hs : Sz g) {L A : List Cell} (hL : ∀ c ∈ L, inG g c = true) {l : List Bool} (hl : Mk g A l) {next : List Bool → Prop} (h : ∀ l', Mk g (A ++ L) l' → next l') {k : Nat} : M_route_Blocked_L3 g k L l next := by
  unfold M_route_Blocked_L3
  refine forIn0 (fun j (m : List Bool) => Mk g (A ++ L.take j) m) (by simpa using hl) (fun j c m hc hJ nx hnn => ?_) (fun m hJ => ?_)
  · unfold M_route_Blocked_L4
    have hin := hL c (List.mem_of_getElem? hc)
    have hlt := numN_lt hs hin
    refine S_number hs hin (idx_nat (List.getElem?_eq_getElem (by rw [hJ.1]; exact hlt)) ?_)
    rw [Int.toNat_natCast]
    refine hnn _ ?_
    rw [List.take_add_one, hc, ← List.append_assoc]
    exact hJ.set hs hin
  · rw [List.take_length] at hJ; exact h m hJ
theorem S_route_Blocked {g : Grid} {t : List Task} {r : List Routed} {Q : Grid → Int → Prop} (h : if routedF g t r ≠ 0 then Q ⟨0, 0, 0, []⟩ (routedF g t r) else Q (blockedG g (moreC t r)) 0) : M_route_Blocked g t r Q := by
  unfold M_route_Blocked
  refine S_route_CheckRouted (cnd_of (fun e => ?_) (fun e => ?_))
  · rw [if_pos (by simpa using e)] at h; exact h
  have e1 : routedF g t r = 0 := by simpa using e
  rw [if_neg (by simp [e1])] at h
  obtain ⟨ok, hrl, hall⟩ := routed_all e1
  have hs := ok.gok.sz
  have htl := ok.len
  refine S_blocked ok.gok ?_
  refine forIn0 (fun k (l : List Bool) => Mk g (moreC t (r.take k)) l) ⟨by unfold noOf; simp, fun n hn => by rw [noOf_get hn]; congr 1; unfold hasN moreC; simp⟩ (fun k x l hx hI next hn => ?_) (fun l hI => ?_)
  · obtain ⟨y, hR⟩ := hall k x hx
    obtain ⟨i, hi, hit, _⟩ := task_some hR.task
    have hin := rCells_in ok hR
    unfold M_route_Blocked_L1
    refine S_taskAt ok.rise (by omega) ?_
    rw [hi]
    have hmany := hR.many
    refine idx_nat hit ⟨⟨by simp only [List.length_append, List.length_cons, List.length_nil]; omega, by simp only [List.length_append, List.length_cons, List.length_nil]; omega⟩, ?_⟩
    have hcat : ([y.Pins] ++ x.Ways).flatten = rCells t x := by rw [rCells_some hR.task, List.flatten_append]; simp
    refine forIn0 (fun j (m : List Bool) => Mk g (moreC t (r.take k) ++ (([y.Pins] ++ x.Ways).take j).flatten) m) (by simpa using hI) (fun j L m hL hJ nx hnn => ?_) (fun m hJ => ?_)
    · refine S_marks hs (fun c hc => (hin c ?_).1) hJ (fun l' hl' => hnn _ ?_)
      · rw [← hcat]; exact List.mem_flatten.2 ⟨L, List.mem_of_getElem? hL, hc⟩
      · rw [List.take_add_one, hL, List.flatten_append, ← List.append_assoc]
        simpa using hl'
    · rw [List.take_length, hcat] at hJ
      refine hn _ ?_
      have e2 : moreC t (r.take (k + 1)) = moreC t (r.take k) ++ rCells t x := by unfold moreC; rw [List.take_add_one, hx, List.flatMap_append]; simp
      rw [e2]; exact hJ
  · rw [List.take_length] at hI
    show forIn' _ _ l 0 ([] : List Cell)
    have hN := ok.gok.N
    refine forIn0 (fun k (m : List Cell) => k ≤ (grG g).N ∧ m = ((List.range k).filter (fun n => hasN g g.Blocked n || hasN g (moreC t r) n)).map (cellN g) ∧ m.length ≤ k) ⟨by omega, rfl, by simp⟩ (fun k b m hb hJ nx hnn => ?_) (fun m hJ => ?_)
    · have hk : k < (grG g).N := by have := lt_of_get hb; rw [hI.1] at this; exact this
      rw [hI.2 k hk] at hb
      injection hb with hb
      obtain ⟨_, hJ, hJl⟩ := hJ
      unfold M_route_Blocked_L2
      refine cnd_of (fun e => S_cell_at hs hk ⟨⟨by rw [List.length_append, List.length_singleton]; omega, by rw [List.length_append, List.length_singleton]; omega⟩, hnn _ ⟨by omega, ?_, by rw [List.length_append, List.length_singleton]; omega⟩⟩) (fun e => hnn _ ⟨by omega, ?_, by omega⟩)
      · rw [List.range_succ, List.filter_append, List.map_append, ← hJ]
        congr 1
        rw [List.filter_cons_of_pos (by rw [hb]; exact e)]; rfl
      · rw [List.range_succ, List.filter_append, List.map_append, ← hJ]
        rw [List.filter_cons_of_neg (by rw [hb, e]; decide)]; simp
    · obtain ⟨_, hJ, _⟩ := hJ
      rw [hI.1] at hJ
      show Q (⟨g.W, g.H, g.Layers, m⟩ : Grid) 0
      rw [hJ]; exact h
def Srt (g : Grid) (l : List Cell) : Prop := l.Pairwise (fun a b => numN g a < numN g b) ∧ ∀ c ∈ l, inG g c = true
theorem hasN_mem {g : Grid} (hs : Sz g) {L : List Cell} (hL : ∀ c ∈ L, inG g c = true) {c : Cell} (hc : inG g c = true) : hasN g L (numN g c) = true ↔ c ∈ L := by
  unfold hasN
  rw [List.any_eq_true]
  exact ⟨fun ⟨d, hd, e⟩ => numN_inj hs (hL d hd) hc (of_decide_eq_true e) ▸ hd, fun h => ⟨c, h, decide_eq_true rfl⟩⟩
theorem blockedL_srt {g : Grid} (hg : GOk g) {M : List Cell} (hM : ∀ c ∈ M, inG g c = true) : Srt g (blockedL g M) ∧ ∀ c, c ∈ blockedL g M ↔ c ∈ g.Blocked ∨ c ∈ M := by
  have hs := hg.sz
  have hin : ∀ c ∈ blockedL g M, inG g c = true := fun c hc => by
    obtain ⟨n, hn, rfl⟩ := List.mem_map.1 hc
    exact cellN_in hs (List.mem_range.1 (List.mem_filter.1 hn).1)
  refine ⟨⟨?_, hin⟩, fun c => ⟨fun hc => ?_, fun hc => ?_⟩⟩
  · unfold blockedL
    rw [List.pairwise_map]
    have : (List.range (grG g).N).Pairwise (fun a b => numN g (cellN g a) < numN g (cellN g b)) := by
      have e : (fun a b => numN g (cellN g a) < numN g (cellN g b)) = (fun a b : Nat => a < b) := by funext a b; rw [numN_cellN, numN_cellN]
      rw [e]; exact List.pairwise_lt_range
    exact this.filter _
  · obtain ⟨n, hn, rfl⟩ := List.mem_map.1 hc
    have h1 := List.mem_filter.1 hn
    have hi := cellN_in hs (List.mem_range.1 h1.1)
    have h2 := h1.2
    rw [Bool.or_eq_true] at h2
    have e := numN_cellN g n
    rcases h2 with h2 | h2
    · left; rw [← e] at h2; exact (hasN_mem hs hg.blk hi).1 h2
    · right; rw [← e] at h2; exact (hasN_mem hs hM hi).1 h2
  · have hi : inG g c = true := hc.elim (hg.blk c) (hM c)
    refine List.mem_map.2 ⟨numN g c, List.mem_filter.2 ⟨List.mem_range.2 (numN_lt hs hi), ?_⟩, cellN_numN hs hi⟩
    rw [Bool.or_eq_true]
    rcases hc with hc | hc
    · exact .inl ((hasN_mem hs hg.blk hi).2 hc)
    · exact .inr ((hasN_mem hs hM hi).2 hc)
theorem moreC_in {g : Grid} {t : List Task} {r : List Routed} (h : routedF g t r = 0) : ∀ c ∈ moreC t r, inG g c = true ∧ c ∉ g.Blocked := by
  intro c hc
  obtain ⟨ok, _, hall⟩ := routed_all h
  obtain ⟨x, hx, hcx⟩ := List.mem_flatMap.1 hc
  obtain ⟨i, hi⟩ := List.getElem?_of_mem hx
  obtain ⟨y, hR⟩ := hall i x hi
  exact rCells_in ok hR c hcx
end Go.Proofs.YtihjaehkdgdenaaDoor
