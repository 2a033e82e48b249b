/- Chapter texts of ours, as far as the claim needs them. -/
import Derived.Test.YtihjaehkdgdenaaGreatDoorRyH
import Derived.Test.YtihjaehkdgdenaaGreatDoorRyD
import Derived.Test.YtihjaehkdgdenaaGreatDoorRtW2
import Derived.Test.YtihjaehkdgdenaaGreatDoorRtJ
namespace Go.Proofs.YtihjaehkdgdenaaGreatDoor
open Go Go.RowKit
set_option linter.unusedVariables false
set_option linter.unusedSectionVars false
set_option linter.unusedSimpArgs false
theorem routed_all {g : Grid} {t : List Task} {r : List Routed} (h : routedF g t r = 0) : TOk g t ∧ r.length ≤ 100 ∧ ∀ k x, r[k]? = some x → ∃ y, ROk g t r k x y := by
  unfold routedF at h
  split at h
  · rename_i h1; exact absurd h h1
  rename_i h1
  split at h
  · cases h
  rename_i h2
  exact ⟨tasks_ok (Decidable.not_not.1 h1), by omega, fun k x hx => routed_ok (firstBad_ok h k x hx)⟩
def netW (c : Costs) (x : Routed) (n : Int) : Int := x.Ways.foldl (fun n w => w64 (n + costW c w)) n
def totalW (c : Costs) (r : List Routed) : Int := r.foldl (fun n x => netW c x n) 0
theorem foldl_take {α β : Type} (f : β → α → β) {l : List α} {k : Nat} {x : α} (hx : l[k]? = some x) (b : β) : (l.take (k + 1)).foldl f b = f ((l.take k).foldl f b) x := by
  rw [List.take_add_one, hx, List.foldl_append]; rfl
def totalF (g : Grid) (c : Costs) (t : List Task) (r : List Routed) (Q : Int → Int → Int → Prop) (F : Int) : Prop :=
  if bothF g c ≠ 0 then Q 0 0 (bothF g c) else if F ≠ 0 then Q 0 0 F else Q (totalW c r) (w64 ((t.length : Int) - (r.length : Int))) 0
theorem S_route_Total {g : Grid} {c : Costs} {t : List Task} {r : List Routed} {Q : Int → Int → Int → Prop} (h : totalF g c t r Q (routedF g t r)) : M_route_Total g c t r Q := by
  unfold M_route_Total
  unfold totalF at h
  refine S_checkBoth (cnd_of (fun e => ?_) (fun e => ?_))
  · rw [if_pos (by simpa using e)] at h; exact h
  have e0 : bothF g c = 0 := by simpa using e
  rw [if_neg (by simp [e0])] at h
  refine S_route_CheckRouted (cnd_of (fun e => ?_) (fun e => ?_))
  · rw [if_pos (by simpa using e)] at h; exact h
  have e1 : routedF g t r = 0 := by simpa using e
  rw [if_neg (by simp [e1])] at h
  obtain ⟨hg, hc⟩ := bothF_zero e0
  obtain ⟨_, _, hall⟩ := routed_all e1
  refine forIn0 (fun k (n : Int) => n = (r.take k).foldl (fun n x => netW c x n) 0) rfl (fun k x n hx hI next hn => ?_) (fun n hI => ?_)
  · obtain ⟨y, hR⟩ := hall k x hx
    unfold M_route_Total_L1
    refine forIn0 (fun j (m : Int) => m = (x.Ways.take j).foldl (fun n w => w64 (n + costW c w)) n) rfl (fun j w m hw hJ nx hnn => ?_) (fun m hJ => ?_)
    · unfold M_route_Total_L2
      refine S_costOf hg hc (hR.ways w (List.mem_of_getElem? hw)) (hnn _ ?_)
      rw [foldl_take _ hw, hJ]
    · rw [List.take_length] at hJ
      refine hn _ ?_
      rw [foldl_take _ hx, ← hI, hJ]; rfl
  · rw [List.take_length] at hI
    show Q n _ _
    rw [hI]; exact h
theorem S_ref_Total {g : Grid} {c : Costs} {t : List Task} (ht : ∀ x ∈ t, x.Net.length < 4294967281) {r : List Routed} {Q : Int → Int → Int → Prop} (h : totalF g c t r Q (routedF g t r)) : M_ref7_Total g c t r Q := by
  unfold M_ref7_Total
  unfold totalF at h
  refine S_askGrid (cnd_of (fun e => ?_) (fun e => ?_))
  · rw [if_pos (by simpa using e)] at h; exact h
  have e0 : bothF g c = 0 := by simpa using e
  rw [if_neg (by simp [e0])] at h
  refine S_ref_CheckRouted ht (cnd_of (fun e => ?_) (fun e => ?_))
  · rw [if_pos (by simpa using e)] at h; exact h
  have e1 : routedF g t r = 0 := by simpa using e
  rw [if_neg (by simp [e1])] at h
  obtain ⟨hg, hc⟩ := bothF_zero e0
  obtain ⟨_, _, hall⟩ := routed_all e1
  refine forIn0 (fun k (n : Int) => n = (r.take k).foldl (fun n x => netW c x n) 0) rfl (fun k x n hx hI next hn => ?_) (fun n hI => ?_)
  · obtain ⟨y, hR⟩ := hall k x hx
    unfold M_ref7_Total_L1
    refine forIn0 (fun j (m : Int) => m = (x.Ways.take j).foldl (fun n w => w64 (n + costW c w)) n) rfl (fun j w m hw hJ nx hnn => ?_) (fun m hJ => ?_)
    · unfold M_ref7_Total_L2
      refine S_ref_costOf hg hc (hR.ways w (List.mem_of_getElem? hw)) (hnn _ ?_)
      rw [foldl_take _ hw, hJ]
    · rw [List.take_length] at hJ
      refine hn _ ?_
      rw [foldl_take _ hx, ← hI, hJ]; rfl
  · rw [List.take_length] at hI
    show Q n _ _
    rw [hI]; exact h
def moreC (t : List Task) (r : List Routed) : List Cell := r.flatMap (rCells t)
def hasN (g : Grid) (L : List Cell) (n : Nat) : Bool := L.any (fun c => decide (numN g c = n))
theorem hasN_append (g : Grid) (L M : List Cell) (n : Nat) : hasN g (L ++ M) n = (hasN g L n || hasN g M n) := by unfold hasN; rw [List.any_append]
def blockedL (g : Grid) (M : List Cell) : List Cell := ((List.range (grG g).N).filter (fun n => hasN g g.Blocked n || hasN g M n)).map (cellN g)
def blockedG (g : Grid) (M : List Cell) : Grid := ⟨g.W, g.H, g.Layers, blockedL g M⟩
theorem rCells_in {g : Grid} {t : List Task} (ok : TOk g t) {r : List Routed} {k : Nat} {x : Routed} {y : Task} (hR : ROk g t r k x y) : ∀ c ∈ rCells t x, inG g c = true ∧ c ∉ g.Blocked := by
  intro c hc
  rw [rCells_some hR.task] at hc
  rcases List.mem_append.1 hc with h1 | h1
  · obtain ⟨i, _, hit, _⟩ := task_some hR.task
    exact (ok.pins y (List.mem_of_getElem? hit)).2.2.2 c h1
  · obtain ⟨w, hw, hcw⟩ := List.mem_flatten.1 h1
    obtain ⟨i, hi⟩ := List.getElem?_of_mem hcw
    have := wayBad_in ((cells_of_way (hR.ways w hw)).2.2 i c hi)
    exact ⟨this.1, this.2.1⟩
theorem rCells_len {g : Grid} {t : List Task} (ok : TOk g t) {r : List Routed} {k : Nat} {x : Routed} {y : Task} (hR : ROk g t r k x y) : (rCells t x).length ≤ 2000050 := by
  obtain ⟨i, _, hit, _⟩ := task_some hR.task
  have h1 := (ok.pins y (List.mem_of_getElem? hit)).2.1
  have h2 := ways_flat hR.many hR.ways
  rw [rCells_some hR.task, List.length_append]; omega
def Mk (g : Grid) (A : List Cell) (l : List Bool) : Prop := l.length = (grG g).N ∧ ∀ n, n < (grG g).N → l[n]? = some (hasN g g.Blocked n || hasN g A n)
theorem Mk.set {g : Grid} (hs : Sz g) {A : List Cell} {l : List Bool} (h : Mk g A l) {c : Cell} (hc : inG g c = true) : Mk g (A ++ [c]) (l.set (numN g c) true) := by
  have hl := numN_lt hs hc
  refine ⟨by rw [List.length_set]; exact h.1, fun n hn => ?_⟩
  rw [set_get' (by rw [h.1]; exact hl), hasN_append]
  by_cases e : n = numN g c
  · subst e
    rw [if_pos rfl]
    have : hasN g [c] (numN g c) = true := by unfold hasN; simp
    rw [this, Bool.or_true, Bool.or_true]
  · rw [if_neg e, h.2 n hn]
    have : hasN g [c] n = false := by unfold hasN; simp; exact fun h => e h.symm
    rw [this, Bool.or_false]
theorem S_marks {g : Grid} (hs : Sz g) {L A : List Cell} (hL : ∀ c ∈ L, inG g c = true) {l : List Bool} (hl : Mk g A l) {next : List Bool → Prop} (h : ∀ l', Mk g (A ++ L) l' → next l') {k : Nat} : M_route_Blocked_L3 g k L l next := by
  unfold M_route_Blocked_L3
  refine forIn0 (fun j (m : List Bool) => Mk g (A ++ L.take j) m) (by simpa using hl) (fun j c m hc hJ nx hnn => ?_) (fun m hJ => ?_)
  · unfold M_route_Blocked_L4
    have hin := hL c (List.mem_of_getElem? hc)
    have hlt := numN_lt hs hin
    refine S_number hs hin (idx_nat (List.getElem?_eq_getElem (by rw [hJ.1]; exact hlt)) ?_)
    rw [Int.toNat_natCast]
    refine hnn _ ?_
    rw [List.take_add_one, hc, ← List.append_assoc]
    exact hJ.set hs hin
  · rw [List.take_length] at hJ; exact h m hJ
theorem S_route_Blocked {g : Grid} {t : List Task} {r : List Routed} {Q : Grid → Int → Prop} (h : if routedF g t r ≠ 0 then Q ⟨0, 0, 0, []⟩ (routedF g t r) else Q (blockedG g (moreC t r)) 0) : M_route_Blocked g t r Q := by
  unfold M_route_Blocked
  refine S_route_CheckRouted (cnd_of (fun e => ?_) (fun e => ?_))
  · rw [if_pos (by simpa using e)] at h; exact h
  have e1 : routedF g t r = 0 := by simpa using e
  rw [if_neg (by simp [e1])] at h
  obtain ⟨ok, hrl, hall⟩ := routed_all e1
  have hs := ok.gok.sz
  have htl := ok.len
  refine S_blocked ok.gok ?_
  refine forIn0 (fun k (l : List Bool) => Mk g (moreC t (r.take k)) l) ⟨by unfold noOf; simp, fun n hn => by rw [noOf_get hn]; congr 1; unfold hasN moreC; simp⟩ (fun k x l hx hI next hn => ?_) (fun l hI => ?_)
  · obtain ⟨y, hR⟩ := hall k x hx
    obtain ⟨i, hi, hit, _⟩ := task_some hR.task
    have hin := rCells_in ok hR
    unfold M_route_Blocked_L1
    refine S_taskAt ok.rise (by omega) ?_
    rw [hi]
    have hmany := hR.many
    refine idx_nat hit ⟨⟨by simp only [List.length_append, List.length_cons, List.length_nil]; omega, by simp only [List.length_append, List.length_cons, List.length_nil]; omega⟩, ?_⟩
    have hcat : ([y.Pins] ++ x.Ways).flatten = rCells t x := by rw [rCells_some hR.task, List.flatten_append]; simp
    refine forIn0 (fun j (m : List Bool) => Mk g (moreC t (r.take k) ++ (([y.Pins] ++ x.Ways).take j).flatten) m) (by simpa using hI) (fun j L m hL hJ nx hnn => ?_) (fun m hJ => ?_)
    · refine S_marks hs (fun c hc => (hin c ?_).1) hJ (fun l' hl' => hnn _ ?_)
      · rw [← hcat]; exact List.mem_flatten.2 ⟨L, List.mem_of_getElem? hL, hc⟩
      · rw [List.take_add_one, hL, List.flatten_append, ← List.append_assoc]
        simpa using hl'
    · rw [List.take_length, hcat] at hJ
      refine hn _ ?_
      have e2 : moreC t (r.take (k + 1)) = moreC t (r.take k) ++ rCells t x := by unfold moreC; rw [List.take_add_one, hx, List.flatMap_append]; simp
      rw [e2]; exact hJ
  · rw [List.take_length] at hI
    show forIn' _ _ l 0 ([] : List Cell)
    have hN := ok.gok.N
    refine forIn0 (fun k (m : List Cell) => k ≤ (grG g).N ∧ m = ((List.range k).filter (fun n => hasN g g.Blocked n || hasN g (moreC t r) n)).map (cellN g) ∧ m.length ≤ k) ⟨by omega, rfl, by simp⟩ (fun k b m hb hJ nx hnn => ?_) (fun m hJ => ?_)
    · have hk : k < (grG g).N := by have := lt_of_get hb; rw [hI.1] at this; exact this
      rw [hI.2 k hk] at hb
      injection hb with hb
      obtain ⟨_, hJ, hJl⟩ := hJ
      unfold M_route_Blocked_L2
      refine cnd_of (fun e => S_cell_at hs hk ⟨⟨by rw [List.length_append, List.length_singleton]; omega, by rw [List.length_append, List.length_singleton]; omega⟩, hnn _ ⟨by omega, ?_, by rw [List.length_append, List.length_singleton]; omega⟩⟩) (fun e => hnn _ ⟨by omega, ?_, by omega⟩)
      · rw [List.range_succ, List.filter_append, List.map_append, ← hJ]
        congr 1
        rw [List.filter_cons_of_pos (by rw [hb]; exact e)]; rfl
      · rw [List.range_succ, List.filter_append, List.map_append, ← hJ]
        rw [List.filter_cons_of_neg (by rw [hb, e]; decide)]; simp
    · obtain ⟨_, hJ, _⟩ := hJ
      rw [hI.1] at hJ
      show Q (⟨g.W, g.H, g.Layers, m⟩ : Grid) 0
      rw [hJ]; exact h
def Srt (g : Grid) (l : List Cell) : Prop := l.Pairwise (fun a b => numN g a < numN g b) ∧ ∀ c ∈ l, inG g c = true
theorem srt_eq {g : Grid} : ∀ {a b : List Cell}, a.Pairwise (fun a b => numN g a < numN g b) → b.Pairwise (fun a b => numN g a < numN g b) → (∀ c, c ∈ a ↔ c ∈ b) → a = b
  | [], b, _, _, h => by
    cases b with
    | nil => rfl
    | cons y r => exact absurd ((h y).2 (List.mem_cons_self ..)) (by simp)
  | x :: a, [], _, _, h => absurd ((h x).1 (List.mem_cons_self ..)) (by simp)
  | x :: a, y :: b, ha, hb, h => by
    rw [List.pairwise_cons] at ha hb
    have e : x = y := by
      rcases List.mem_cons.1 ((h x).1 (List.mem_cons_self ..)) with h1 | h1
      · exact h1
      · rcases List.mem_cons.1 ((h y).2 (List.mem_cons_self ..)) with h2 | h2
        · exact h2.symm
        · have := hb.1 x h1; have := ha.1 y h2; omega
    subst e
    congr 1
    refine srt_eq ha.2 hb.2 fun c => ⟨fun hc => ?_, fun hc => ?_⟩
    · rcases List.mem_cons.1 ((h c).1 (List.mem_cons_of_mem _ hc)) with h1 | h1
      · subst h1; have := ha.1 c hc; omega
      · exact h1
    · rcases List.mem_cons.1 ((h c).2 (List.mem_cons_of_mem _ hc)) with h1 | h1
      · subst h1; have := hb.1 c hc; omega
      · exact h1
theorem blocked_srt {g : Grid} (h : gridF g = 0) : Srt g g.Blocked := by
  have hg := gridF_zero h
  have hs := hg.sz
  unfold gridF at h
  split at h; · cases h
  split at h; · cases h
  have hb := firstBad_ok h
  have next : ∀ (i : Nat) a b, g.Blocked[i]? = some a → g.Blocked[i + 1]? = some b → numN g a < numN g b := fun i a b ha hb' => by
    have h1 := hb (i + 1) b hb'
    unfold gridBad at h1
    have ib := hg.blk b (List.mem_of_getElem? hb')
    have ia := hg.blk a (List.mem_of_getElem? ha)
    rw [if_neg (by rw [ib]; decide)] at h1
    split at h1
    · cases h1
    · rename_i h2
      have e : g.Blocked.getD (i + 1 - 1) default = a := by rw [List.getD_eq_getElem?_getD, Nat.add_sub_cancel, ha]; rfl
      rw [e, numI_eq hs ib, numI_eq hs ia] at h2
      have : ¬ ((numN g b : Int) ≤ (numN g a : Int)) := fun h3 => h2 ⟨by omega, h3⟩
      omega
  have all : ∀ (d i : Nat) a b, g.Blocked[i]? = some a → g.Blocked[i + d + 1]? = some b → numN g a < numN g b := by
    intro d
    induction d with
    | zero => intro i a b ha hb'; exact next i a b ha hb'
    | succ d ih =>
      intro i a b ha hb'
      have hl : i + d + 1 < g.Blocked.length := by have := lt_of_get hb'; omega
      have hm := List.getElem?_eq_getElem hl
      have h1 := ih i a _ ha hm
      have h2 := next (i + d + 1) _ b hm hb'
      omega
  refine ⟨List.pairwise_iff_getElem.2 fun i j hi hj hij => ?_, hg.blk⟩
  exact all (j - i - 1) i _ _ (List.getElem?_eq_getElem hi) (by rw [show i + (j - i - 1) + 1 = j by omega]; exact List.getElem?_eq_getElem hj)
theorem hasN_mem {g : Grid} (hs : Sz g) {L : List Cell} (hL : ∀ c ∈ L, inG g c = true) {c : Cell} (hc : inG g c = true) : hasN g L (numN g c) = true ↔ c ∈ L := by
  unfold hasN
  rw [List.any_eq_true]
  exact ⟨fun ⟨d, hd, e⟩ => numN_inj hs (hL d hd) hc (of_decide_eq_true e) ▸ hd, fun h => ⟨c, h, decide_eq_true rfl⟩⟩
theorem blockedL_srt {g : Grid} (hg : GOk g) {M : List Cell} (hM : ∀ c ∈ M, inG g c = true) : Srt g (blockedL g M) ∧ ∀ c, c ∈ blockedL g M ↔ c ∈ g.Blocked ∨ c ∈ M := by
  have hs := hg.sz
  have hin : ∀ c ∈ blockedL g M, inG g c = true := fun c hc => by
    obtain ⟨n, hn, rfl⟩ := List.mem_map.1 hc
    exact cellN_in hs (List.mem_range.1 (List.mem_filter.1 hn).1)
  refine ⟨⟨?_, hin⟩, fun c => ⟨fun hc => ?_, fun hc => ?_⟩⟩
  · unfold blockedL
    rw [List.pairwise_map]
    have : (List.range (grG g).N).Pairwise (fun a b => numN g (cellN g a) < numN g (cellN g b)) := by
      have e : (fun a b => numN g (cellN g a) < numN g (cellN g b)) = (fun a b : Nat => a < b) := by funext a b; rw [numN_cellN, numN_cellN]
      rw [e]; exact List.pairwise_lt_range
    exact this.filter _
  · obtain ⟨n, hn, rfl⟩ := List.mem_map.1 hc
    have h1 := List.mem_filter.1 hn
    have hi := cellN_in hs (List.mem_range.1 h1.1)
    have h2 := h1.2
    rw [Bool.or_eq_true] at h2
    have e := numN_cellN g n
    rcases h2 with h2 | h2
    · left; rw [← e] at h2; exact (hasN_mem hs hg.blk hi).1 h2
    · right; rw [← e] at h2; exact (hasN_mem hs hM hi).1 h2
  · have hi : inG g c = true := hc.elim (hg.blk c) (hM c)
    refine List.mem_map.2 ⟨numN g c, List.mem_filter.2 ⟨List.mem_range.2 (numN_lt hs hi), ?_⟩, cellN_numN hs hi⟩
    rw [Bool.or_eq_true]
    rcases hc with hc | hc
    · exact .inl ((hasN_mem hs hg.blk hi).2 hc)
    · exact .inr ((hasN_mem hs hM hi).2 hc)
theorem S_insertCell {g : Grid} (hs : Sz g) {out : List Cell} (hS : Srt g out) (hl : out.length ≤ 300000000) {c : Cell} (hc : inG g c = true) {k : Nat} {next : List Cell → Prop}
    (h : ∀ out', Srt g out' → (∀ x, x ∈ out' ↔ x ∈ out ∨ x = c) → out'.length ≤ out.length + 1 → next out') : M_ref7_withBlocked_L1 k c out next := by
  unfold M_ref7_withBlocked_L1
  refine lp_measN (fun n (s : Int) => s = (n : Int) ∧ n ≤ out.length ∧ ∀ (i : Nat) x, n ≤ i → out[i]? = some x → numN g c < numN g x) (n := out.length) ⟨rfl, Nat.le_refl _, fun i x hi hx => by have := lt_of_get hx; omega⟩ ?_
  rintro n s X ⟨rfl, hn, hge⟩ hX
  unfold M_ref7_withBlocked_L2
  have ins : (∀ (i : Nat) x, i < n → out[i]? = some x → numN g x < numN g c) → M_ref7_withBlocked_k4 c out next (n : Int) true := by
    intro hlo
    unfold M_ref7_withBlocked_k4 M_insert_cell
    refine cnd_of (fun _ => ⟨⟨by omega, by omega, by simp, by simp only [List.length_singleton]; exact ⟨by omega, by omega⟩⟩, ?_⟩) (fun e => by cases e)
    rw [Int.toNat_natCast]
    have hlow : ∀ x ∈ out.take n, numN g x < numN g c := fun x hx => by
      obtain ⟨i, hi⟩ := List.getElem?_of_mem hx
      have hin : i < n := by have := lt_of_get hi; simp at this; omega
      rw [List.getElem?_take, if_pos hin] at hi
      exact hlo i x hin hi
    have hhi : ∀ x ∈ out.drop n, numN g c < numN g x := fun x hx => by
      obtain ⟨i, hi⟩ := List.getElem?_of_mem hx
      rw [List.getElem?_drop] at hi
      exact hge (n + i) x (by omega) hi
    have hp : (out.take n ++ out.drop n).Pairwise (fun a b => numN g a < numN g b) := by rw [List.take_append_drop]; exact hS.1
    rw [List.pairwise_append] at hp
    refine h _ ⟨?_, fun x hx => ?_⟩ (fun x => ?_) (by simp only [List.length_append, List.length_take, List.length_drop, List.length_singleton]; omega)
    · rw [List.pairwise_append, List.pairwise_append]
      refine ⟨⟨hp.1, List.pairwise_singleton .., fun a ha b hb => by rw [List.mem_singleton.1 hb]; exact hlow a ha⟩, hp.2.1, fun a ha b hb => ?_⟩
      rcases List.mem_append.1 ha with h1 | h1
      · exact hp.2.2 a h1 b hb
      · rw [List.mem_singleton.1 h1]; exact hhi b hb
    · rcases List.mem_append.1 hx with h1 | h1
      · rcases List.mem_append.1 h1 with h2 | h2
        · exact hS.2 x (List.mem_of_mem_take h2)
        · rw [List.mem_singleton.1 h2]; exact hc
      · exact hS.2 x (List.mem_of_mem_drop h1)
    · have e : x ∈ out ↔ x ∈ out.take n ∨ x ∈ out.drop n := by rw [← List.mem_append, List.take_append_drop]
      rw [e, List.mem_append, List.mem_append, List.mem_singleton]
      constructor
      · rintro ((h1 | h1) | h1)
        · exact .inl (.inl h1)
        · exact .inr h1
        · exact .inl (.inr h1)
      · rintro ((h1 | h1) | h1)
        · exact .inl (.inl h1)
        · exact .inr h1
        · exact .inl (.inr h1)
  refine cnd_of (fun e => ?_) (fun e => ?_)
  · have hpos : 0 < n := by have := of_decide_eq_true e; omega
    have hw : w64 ((n : Int) - 1) = ((n - 1 : Nat) : Int) := by rw [w64_id (by omega) (by omega)]; omega
    have hg := List.getElem?_eq_getElem (show n - 1 < out.length by omega)
    have hin := hS.2 _ (List.mem_of_getElem? hg)
    rw [hw]
    refine idx_nat hg (S_before ?_)
    rw [before_num hs hc hin]
    unfold M_ref7_withBlocked_k3
    rw [hw]
    have below : ∀ (i : Nat) x, i < n - 1 → out[i]? = some x → numN g x < numN g out[n - 1] := fun i x hi hx => by
      have hil := lt_of_get hx
      have := List.pairwise_iff_getElem.1 hS.1 i (n - 1) hil (by omega) hi
      have e2 : out[i] = x := by have := List.getElem?_eq_getElem hil; rw [hx] at this; injection this with this; exact this.symm
      rw [e2] at this; exact this
    refine cnd_of (fun e2 => ?_) (fun e2 => ?_)
    · have h1 := of_decide_eq_true e2
      refine hX (n - 1) _ (by omega) ⟨rfl, by omega, fun i x hi hx => ?_⟩
      by_cases ei : i = n - 1
      · subst ei; rw [hg] at hx; injection hx with hx; subst hx; exact h1
      · exact hge i x (by omega) hx
    · have h1 := of_decide_eq_false e2
      refine cnd_of (fun e3 => by simp at e3; omega) (fun e3 => idx_nat hg ?_)
      by_cases ec : out[n - 1] = c
      · rw [decide_eq_true ec]
        unfold M_ref7_withBlocked_k4
        refine cnd_of (fun e' => by cases e') (fun _ => h out hS (fun x => ⟨.inl, fun h2 => h2.elim id fun h3 => ?_⟩) (by omega))
        rw [h3, ← ec]; exact List.getElem_mem _
      · rw [decide_eq_false ec]
        refine ins fun i x hi hx => ?_
        have hne : numN g out[n - 1] ≠ numN g c := fun h2 => ec (numN_inj hs hin hc h2)
        by_cases ei : i = n - 1
        · subst ei; rw [hg] at hx; injection hx with hx; subst hx; omega
        · have := below i x (by omega) hx; omega
  · have hz : n = 0 := by have := of_decide_eq_false e; omega
    subst hz
    unfold M_ref7_withBlocked_k3
    refine cnd_of (fun e' => by cases e') (fun _ => cnd_of (fun _ => ins fun i x hi => by omega) (fun e3 => by simp at e3))
theorem S_withBlocked {g : Grid} (h0 : gridF g = 0) {M : List Cell} (hM : ∀ c ∈ M, inG g c = true) (hl : M.length ≤ 250000000) {Q : Grid → Prop} (h : Q (blockedG g M)) : M_ref7_withBlocked g M Q := by
  have hg := gridF_zero h0
  have hs := hg.sz
  have hbl := hg.len
  have start := blocked_srt h0
  unfold M_ref7_withBlocked M_clone_cell
  have go : forIn' (fun k x (s : List Cell) next => M_ref7_withBlocked_L1 k x s (fun l2 => next l2)) (fun (s : List Cell) => (fun (l2 : List Cell) => Q (⟨g.W, g.H, g.Layers, l2⟩ : Grid)) s) M 0 g.Blocked := by
    refine forIn0 (fun k (out : List Cell) => Srt g out ∧ (∀ x, x ∈ out ↔ x ∈ g.Blocked ∨ x ∈ M.take k) ∧ out.length ≤ 40000 + k) ⟨start, fun x => by simp, by omega⟩ (fun k c out hc hI next hn => ?_) (fun out hI => ?_)
    · obtain ⟨i1, i2, i3⟩ := hI
      have hk := lt_of_get hc
      refine S_insertCell hs i1 (by omega) (hM c (List.mem_of_getElem? hc)) fun out' o1 o2 o3 => hn _ ⟨o1, fun x => ?_, by omega⟩
      rw [o2, i2, List.take_add_one, hc, List.mem_append]
      simp only [Option.toList, List.mem_singleton, or_assoc]
    · obtain ⟨i1, i2, i3⟩ := hI
      rw [List.take_length] at i2
      obtain ⟨b1, b2⟩ := blockedL_srt hg hM
      have e : out = blockedL g M := srt_eq i1.1 b1.1 (fun c => (i2 c).trans (b2 c).symm)
      show Q (⟨g.W, g.H, g.Layers, out⟩ : Grid)
      rw [e]; exact h
  intro b hb
  refine cnd_of (fun e => ?_) (fun e => ?_)
  · rw [hb e] at go; exact go
  · rw [List.nil_append]
    exact ⟨⟨by omega, by omega⟩, go⟩
theorem moreC_len {g : Grid} {t : List Task} {r : List Routed} (h : routedF g t r = 0) (k : Nat) : (moreC t (r.take k)).length ≤ 2000050 * 100 := by
  obtain ⟨ok, hrl, hall⟩ := routed_all h
  have key : ∀ k, k ≤ r.length → (moreC t (r.take k)).length ≤ 2000050 * k := by
    intro k
    induction k with
    | zero => intro _; simp [moreC]
    | succ k ih =>
      intro hk
      have hx := List.getElem?_eq_getElem (show k < r.length by omega)
      obtain ⟨y, hR⟩ := hall k _ hx
      have h1 := rCells_len ok hR
      have h2 := ih (by omega)
      unfold moreC at h2 ⊢
      rw [List.take_add_one, hx, List.flatMap_append, List.length_append]
      simp only [Option.toList, List.flatMap_cons, List.flatMap_nil, List.append_nil]
      omega
  rcases Nat.le_total k r.length with h1 | h1
  · have := key k h1; omega
  · rw [List.take_of_length_le h1]
    have := key r.length (Nat.le_refl _)
    rw [List.take_length] at this; omega
theorem moreC_in {g : Grid} {t : List Task} {r : List Routed} (h : routedF g t r = 0) : ∀ c ∈ moreC t r, inG g c = true ∧ c ∉ g.Blocked := by
  intro c hc
  obtain ⟨ok, _, hall⟩ := routed_all h
  obtain ⟨x, hx, hcx⟩ := List.mem_flatMap.1 hc
  obtain ⟨i, hi⟩ := List.getElem?_of_mem hx
  obtain ⟨y, hR⟩ := hall i x hi
  exact rCells_in ok hR c hcx
theorem blockedG_congr {g : Grid} {M M' : List Cell} (h : ∀ c, c ∈ M ↔ c ∈ M') : blockedG g M = blockedG g M' := by
  have : ∀ n, hasN g M n = hasN g M' n := fun n => by
    unfold hasN
    rw [Bool.eq_iff_iff, List.any_eq_true, List.any_eq_true]
    exact ⟨fun ⟨d, hd, e⟩ => ⟨d, (h d).1 hd, e⟩, fun ⟨d, hd, e⟩ => ⟨d, (h d).2 hd, e⟩⟩
  unfold blockedG blockedL
  simp only [this]
theorem S_ref_Blocked {g : Grid} {t : List Task} (ht : ∀ x ∈ t, x.Net.length < 4294967281) {r : List Routed} {Q : Grid → Int → Prop} (h : if routedF g t r ≠ 0 then Q ⟨0, 0, 0, []⟩ (routedF g t r) else Q (blockedG g (moreC t r)) 0) : M_ref7_Blocked g t r Q := by
  unfold M_ref7_Blocked
  refine S_ref_CheckRouted ht (cnd_of (fun e => ?_) (fun e => ?_))
  · rw [if_pos (by simpa using e)] at h; exact h
  have e1 : routedF g t r = 0 := by simpa using e
  rw [if_neg (by simp [e1])] at h
  obtain ⟨ok, hrl, hall⟩ := routed_all e1
  have e0 : gridF g = 0 := by
    unfold routedF at e1
    split at e1
    · rename_i h1; exact absurd e1 h1
    · rename_i h1
      have h2 : tasksF g t = 0 := Decidable.not_not.1 h1
      unfold tasksF at h2
      split at h2
      · rename_i h3; exact absurd h2 h3
      · rename_i h3; exact Decidable.not_not.1 h3
  have hin := moreC_in e1
  refine forIn0 (fun k (l : List Cell) => l.length = (moreC t (r.take k)).length ∧ ∀ c, c ∈ l ↔ c ∈ moreC t (r.take k)) ⟨by simp [moreC], fun c => by simp [moreC]⟩ (fun k x l hx hI next hn => ?_) (fun l hI => ?_)
  · obtain ⟨y, hR⟩ := hall k x hx
    have e2 : moreC t (r.take (k + 1)) = moreC t (r.take k) ++ rCells t x := by unfold moreC; rw [List.take_add_one, hx, List.flatMap_append]; simp
    have hlen := moreC_len e1 (k + 1)
    rw [e2, List.length_append] at hlen
    have hcl : (x.Ways.flatten ++ y.Pins).length = (rCells t x).length := by rw [rCells_some hR.task, List.length_append, List.length_append]; omega
    unfold M_ref7_Blocked_L1
    refine S_cellsOf ok hR.task hR.many hR.ways ⟨⟨by rw [List.length_append]; omega, by rw [List.length_append]; omega⟩, hn _ ⟨by rw [e2, List.length_append, hcl, List.length_append, hI.1], fun c => ?_⟩⟩
    rw [e2]
    exact (List.mem_append.trans (or_congr (hI.2 c) (mem_cells hR.task c))).trans List.mem_append.symm
  · rw [List.take_length] at hI
    have hlen := moreC_len e1 r.length
    rw [List.take_length] at hlen
    refine S_withBlocked e0 (fun c hc => (hin c ((hI.2 c).1 hc)).1) (by omega) ?_
    rw [blockedG_congr hI.2]; exact h
theorem S_equal_cell {xs ys : List Cell} {Q : Bool → Prop} (h : Q (decide (xs = ys))) : M_equal_cell xs ys Q := by
  unfold M_equal_cell
  exact equal_loop (fun k x next hq => hq) h
theorem law_Routed_upto (g : Grid) (c : Costs) (t : List Task) (r : List Routed) (k2 : Bulk.bk t ≤ 1048576) : M_law_Routed g c t r (· = true) := by
  have ht : ∀ x ∈ t, x.Net.length < 4294967281 := fun x hx => by
    have h1 := bulk_mem hx
    have h2 : Bulk.bk x = (x.Net.length + 1) + (Bulk.bk x.Pins + 1) := rfl
    omega
  unfold M_law_Routed
  have fin : M_law_Routed_k1 g t r (· = true) false := by
    unfold M_law_Routed_k1
    refine cnd_of (fun e => by cases e) (fun _ => S_route_Blocked ?_)
    have last : ∀ (G : Grid) (f : Int), cnd (f == f) (M_ref7_SameGrid G G fun y11 => cnd y11 (M_route_awake fun y12 => y12 = true) (false = true)) (false = true) := fun G f => by
      refine cnd_of (fun _ => ?_) (fun e => by simp at e)
      unfold M_ref7_SameGrid
      refine cnd_of (fun _ => cnd_of (fun _ => cnd_of (fun _ => S_equal_cell (cnd_of (fun _ => S_awake rfl) (fun e => by simp at e))) (fun e => by simp at e)) (fun e => by simp at e)) (fun e => by simp at e)
    split
    · rename_i e
      refine S_ref_Blocked ht ?_
      rw [if_pos e]
      exact last _ _
    · rename_i e
      refine S_ref_Blocked ht ?_
      rw [if_neg e]
      exact last _ _
  have fin2 : ∀ (a b f : Int), M_route_CheckRouted g t r fun y13 => M_ref7_CheckRouted g t r fun y14 => cnd (y13 != y14) (M_law_Routed_k1 g t r (· = true) true) (cnd (f != f) (M_law_Routed_k1 g t r (· = true) true) (cnd (a != a) (M_law_Routed_k1 g t r (· = true) true) (M_law_Routed_k1 g t r (· = true) (b != b)))) := fun a b f => by
    refine S_route_CheckRouted (S_ref_CheckRouted ht ?_)
    refine cnd_of (fun e => by simp at e) (fun _ => cnd_of (fun e => by simp at e) (fun _ => cnd_of (fun e => by simp at e) (fun _ => ?_)))
    have : (b != b) = false := by simp
    rw [this]; exact fin
  refine S_route_Total ?_
  unfold totalF
  split
  · rename_i e
    refine S_ref_Total ht ?_
    unfold totalF
    rw [if_pos e]; exact fin2 _ _ _
  · rename_i e
    split
    · rename_i e2
      refine S_ref_Total ht ?_
      unfold totalF
      rw [if_neg e, if_pos e2]; exact fin2 _ _ _
    · rename_i e2
      refine S_ref_Total ht ?_
      unfold totalF
      rw [if_neg e, if_neg e2]; exact fin2 _ _ _
end Go.Proofs.YtihjaehkdgdenaaGreatDoor
