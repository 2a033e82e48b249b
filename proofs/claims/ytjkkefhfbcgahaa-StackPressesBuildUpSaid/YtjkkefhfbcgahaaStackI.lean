/- Chapter 4: spans: the laws of the program's part, plain. -/
import Derived.Test.YtjkkefhfbcgahaaStackH
import Derived.Test.YtjkkefhfbcgahaaRev
namespace Go.Proofs.Ytjkkefhfbcgahaa
open Go Go.RowKit
set_option linter.unusedVariables false

/-! ### cores, sub-boards -/
def coreStep (m : List Material) (st : List Through × Int) (x : Layer) : List Through × Int :=
  if kindAt m x = 1 then (st.1, st.2 + 1) else if kindAt m x = 2 then (st.1 ++ [⟨st.2, st.2 + 1⟩], st.2) else st
def coresOf (m : List Material) (s : List Layer) : List Through := (s.foldl (coreStep m) ([], 0)).1
theorem take_foldl_succ {α β : Type} (f : β → α → β) (b : β) (l : List α) (k : Nat) (x : α) (hx : l[k]? = some x) : (l.take (k + 1)).foldl f b = f ((l.take k).foldl f b) x := by
  rw [List.take_add_one, hx, List.foldl_append]; rfl
theorem coreSteps_bound (m : List Material) : ∀ (s : List Layer) (st : List Through × Int), 0 ≤ st.2 → st.2 ≤ (s.foldl (coreStep m) st).2 ∧ (s.foldl (coreStep m) st).2 ≤ st.2 + s.length ∧ (s.foldl (coreStep m) st).1.length ≤ st.1.length + s.length
  | [], st, _ => by simp
  | x :: r, st, h => by
    have h1 : 0 ≤ (coreStep m st x).2 ∧ st.2 ≤ (coreStep m st x).2 ∧ (coreStep m st x).2 ≤ st.2 + 1 ∧ (coreStep m st x).1.length ≤ st.1.length + 1 := by
      unfold coreStep; split
      · simp; omega
      · split
        · simp; omega
        · simp; omega
    have := coreSteps_bound m r (coreStep m st x) h1.1
    simp only [List.foldl_cons, List.length_cons]
    omega
theorem S_stack_cores {m : List Material} (hm : MatsOk m) {s : List Layer} (hs : s.length ≤ 1000) {Q : List Through → Prop} (h : Q (coresOf m s)) : M_stack_cores m s Q := by
  unfold M_stack_cores
  refine forIn0 (fun k st => st = (s.take k).foldl (coreStep m) ([], 0)) rfl (fun k x st hx hI next hn => ?_) (fun st hI => ?_)
  · have hk := lt_of_get hx
    have hb := coreSteps_bound m (s.take k) ([], 0) (Int.le_refl _)
    have hl : (s.take k).length = k := by rw [List.length_take]; omega
    rw [← hI, hl] at hb
    simp only [List.length_nil, Nat.zero_add] at hb
    have hX := hn _ (take_foldl_succ (coreStep m) ([], 0) s k x hx).symm
    rw [← hI] at hX
    unfold coreStep at hX
    unfold M_stack_cores_L1
    have hw : w64 (st.2 + 1) = st.2 + 1 := w64_id (by omega) (by omega)
    refine S_stack_kindOf hm (cnd_of (fun e => ?_) (fun e => cnd_of (fun e2 => ?_) (fun e2 => ?_)))
    · rw [if_pos (by simpa using e)] at hX; rw [hw]; exact hX
    · rw [if_neg (by simpa using e), if_pos (by simpa using e2)] at hX
      rw [hw]
      exact ⟨room_of (by simp only [List.length_append, List.length_singleton]; omega) (by omega), hX⟩
    · rw [if_neg (by simpa using e), if_neg (by simpa using e2)] at hX; exact hX
  · subst hI; rw [List.take_length]; exact h
theorem coresOf_len (m : List Material) (s : List Layer) : (coresOf m s).length ≤ s.length := by
  have := (coreSteps_bound m s ([], 0) (Int.le_refl _)).2.2; simpa [coresOf] using this
theorem S_contains_thr {s : List Through} {v : Through} {Q : Bool → Prop} (h : Q (decide (v ∈ s))) : M_contains_thr s v Q := by
  unfold M_contains_thr M_index_thr
  refine forIn_any (fun x => decide (v = x)) (fun k x next hq => ?_) s 0 (A := Q true) ?_
  · unfold M_index_thr_L1
    have : decide ((k : Int) ≥ 0) = true := by simp
    dsimp only
    rw [this]; exact cnd_iff.2 hq
  · have e : s.any (fun x => decide (v = x)) = decide (v ∈ s) := by rw [Bool.eq_iff_iff]; simp
    rw [e]
    split
    · rename_i e2; rw [e2] at h; exact h
    · rename_i e2
      rw [show decide (v ∈ s) = false by simpa using e2] at h; exact h
def addNew (base acc : List Through) (x : Through) : List Through := if x ∈ base ∨ x ∈ acc then acc else acc ++ [x]
def pressedOf (base l : List Through) : List Through := l.foldl (addNew base) []
def sortSpans (p : List Through) : List Through := p.mergeSort (fun a b => decide (¬ cmpSpans b a < 0))
def wholeOf (m : List Material) (s : List Layer) : Through := ⟨1, (copOf m s).length⟩
def allOf (m : List Material) (s : List Layer) (l : List Through) : List Through := coresOf m s ++ sortSpans (pressedOf (coresOf m s) (l ++ [wholeOf m s]))
def SpanIn (x : Through) : Prop := 0 ≤ x.From ∧ x.From ≤ 1000 ∧ 0 ≤ x.To ∧ x.To ≤ 1000
theorem pressed_mem (base : List Through) : ∀ (l acc : List Through) (x : Through), x ∈ l.foldl (addNew base) acc → x ∈ acc ∨ x ∈ l
  | [], acc, x, h => .inl h
  | y :: l, acc, x, h => by
    rcases pressed_mem base l (addNew base acc y) x h with h | h
    · unfold addNew at h
      split at h
      · exact .inl h
      · rcases List.mem_append.1 h with h | h
        · exact .inl h
        · exact .inr (by simp at h; simp [h])
    · exact .inr (List.mem_cons_of_mem _ h)
theorem pressed_len (base : List Through) : ∀ (l acc : List Through), (l.foldl (addNew base) acc).length ≤ acc.length + l.length
  | [], acc => by simp
  | y :: l, acc => by
    have := pressed_len base l (addNew base acc y)
    have h2 : (addNew base acc y).length ≤ acc.length + 1 := by unfold addNew; split <;> simp
    simp only [List.foldl_cons, List.length_cons]; omega
theorem sortSpans_perm (p : List Through) : (sortSpans p).Perm p := List.mergeSort_perm _ _
theorem sortSpans_sorted (p : List Through) : (sortSpans p).Pairwise (fun a b => ¬ cmpSpans b a < 0) := by
  have := List.pairwise_mergeSort (le := fun a b => decide (¬ cmpSpans b a < 0)) (fun a b c h1 h2 => by
    have h1 := of_decide_eq_true h1; have h2 := of_decide_eq_true h2
    refine decide_eq_true ?_
    rw [cmpSpans_lt] at *; omega) (fun a b => by
    simp only [Bool.or_eq_true, decide_eq_true_eq]
    rw [cmpSpans_lt, cmpSpans_lt]; omega) p
  exact this.imp (fun h => of_decide_eq_true h)
theorem S_sortfunc_thr {p : List Through} (hp : ∀ x ∈ p, SpanIn x) (hl : p.length ≤ 1000000) {Q : List Through → Prop} (h : Q (sortSpans p)) : M_sortfunc_thr p Q := by
  refine ⟨by omega, fun t ht hs => ?_⟩
  have : t = sortSpans p := by
    refine List.Perm.eq_of_pairwise (fun a b ha hb h1 h2 => ?_) hs (sortSpans_sorted p) (ht.trans (sortSpans_perm p).symm)
    have ia := hp a (ht.subset ha)
    have ib := hp b ((sortSpans_perm p).subset hb)
    rw [cmpSpans_lt] at h1 h2
    unfold SpanIn at ia ib
    rw [w64_id (by omega) (by omega), w64_id (by omega) (by omega)] at h1 h2
    cases a; cases b
    simp only at *
    congr 1 <;> omega
  rw [this]; exact h
theorem S_clone_thr {s : List Through} (hs : s.length ≤ 100000) {Q : List Through → Prop} (h : Q s) : M_clone_thr s Q := by
  unfold M_clone_thr
  exact clone_step (room_of (by omega) (by omega)) h
theorem copOf_len (m : List Material) (s : List Layer) : (copOf m s).length ≤ s.length := copTo_len m s s.length
theorem S_stack_boards {m : List Material} (hm : MatsOk m) {s : List Layer} (hs : s.length ≤ 60) {l : List Through} (hl : ∀ x ∈ l, SpanIn x) (hll : l.length ≤ 200) {Q : List Through → Int → Prop} (h : Q (allOf m s l) ((coresOf m s).length : Int)) : M_stack_boards m s l Q := by
  unfold M_stack_boards
  have hcl := coresOf_len m s
  have hcp := copOf_len m s
  refine S_stack_cores hm (by omega) (S_clone_thr (by omega) (S_stack_coppers hm (by omega) ⟨room_of (by simp only [List.length_append, List.length_singleton]; omega) (by omega), ?_⟩))
  show forIn' _ _ (l ++ [wholeOf m s]) 0 _
  refine forIn0 (fun k acc => acc = ((l ++ [wholeOf m s]).take k).foldl (addNew (coresOf m s)) []) rfl (fun k x acc hx hI next hn => ?_) (fun acc hI => ?_)
  · have hk := lt_of_get hx
    have hX := hn _ (take_foldl_succ (addNew (coresOf m s)) [] _ k x hx).symm
    rw [← hI] at hX
    have hlen := pressed_len (coresOf m s) ((l ++ [wholeOf m s]).take k) []
    rw [← hI, List.length_take] at hlen
    simp only [List.length_nil, Nat.zero_add, List.length_append, List.length_singleton] at hlen
    unfold addNew at hX
    unfold M_stack_boards_L1 M_stack_boards_k2
    refine S_contains_thr (cnd_of (fun e => S_contains_thr (cnd_of (fun e2 => ?_) (fun e2 => ?_))) (fun e => cnd_of (fun e => by cases e) (fun _ => ?_)))
    · rw [if_neg (by simp at e e2; simp [e, e2])] at hX
      exact ⟨room_of (by simp only [List.length_append, List.length_singleton]; omega) (by omega), hX⟩
    · rw [if_pos (by simp at e2; simp [e2])] at hX; exact hX
    · rw [if_pos (by simp at e; simp [e])] at hX; exact hX
  · subst hI
    rw [List.take_length]
    have hlen := pressed_len (coresOf m s) (l ++ [wholeOf m s]) []
    simp only [List.length_nil, Nat.zero_add, List.length_append, List.length_singleton] at hlen
    refine S_sortfunc_thr (fun x hx => ?_) (by omega) ⟨room_of ?_ (by omega), h⟩
    · rcases pressed_mem _ _ _ _ hx with h | h
      · simp at h
      · rcases List.mem_append.1 h with h | h
        · exact hl x h
        · simp at h; subst h; unfold SpanIn wholeOf; simp only; omega
    · have h5 := (sortSpans_perm (pressedOf (coresOf m s) (l ++ [wholeOf m s]))).length_eq
      have h6 : (pressedOf (coresOf m s) (l ++ [wholeOf m s])).length ≤ l.length + 1 := hlen
      show (coresOf m s ++ sortSpans (pressedOf (coresOf m s) (l ++ [wholeOf m s]))).length * 16 ≤ _
      rw [List.length_append]
      omega
/-! ### spans that are right -/
def spanBad (n : Int) (l : List Through) (k : Nat) (x : Through) : Int :=
  if x.From < 1 ∨ x.To > n ∨ x.To ≤ x.From then 1
  else if 0 < k ∧ (x.From < (l.getD (k - 1) default).From ∨ (x.From = (l.getD (k - 1) default).From ∧ x.To ≤ (l.getD (k - 1) default).To)) then 8 else 0
def liesB (a b : Through) : Bool := decide (a.From ≥ b.From) && decide (a.To ≤ b.To)
def clashB (a b : Through) : Bool := decide (a.From ≤ b.To) && decide (b.From ≤ a.To) && !(liesB a b) && !(liesB b a)
def clashAt (all : List Through) (k : Nat) (x : Through) : Int := if (all.take k).any (clashB x) = true then 12 else 0
def coverB (a : Through) (c : Int) (b : Through) : Bool := !(decide (b = a)) && liesB b a && decide (b.From ≤ c) && decide (b.To ≥ c)
def heldB (all : List Through) (a : Through) : Bool := (List.range (a.To - a.From - 1).toNat).all (fun i => all.any (coverB a (a.From + 1 + (i : Int))))
def heldAt (all : List Through) (k : Nat) (x : Through) : Int := if heldB all x = true then 0 else 11
def spansFault (m : List Material) (s : List Layer) (l : List Through) : Int :=
  if stackFault m s ≠ 0 then stackFault m s else if (l.length : Int) > 200 then 2
  else if firstBad (spanBad (copOf m s).length l) l 0 ≠ 0 then firstBad (spanBad (copOf m s).length l) l 0
  else if firstBad (clashAt (allOf m s l)) (allOf m s l) 0 ≠ 0 then firstBad (clashAt (allOf m s l)) (allOf m s l) 0
  else firstBad (heldAt (allOf m s l)) ((allOf m s l).drop (coresOf m s).length) 0
theorem S_stack_lies {a b : Through} {Q : Bool → Prop} (h : Q (liesB a b)) : M_stack_lies a b Q := by
  unfold M_stack_lies
  unfold liesB at h
  refine cnd_of (fun e => ?_) (fun e => ?_)
  · rw [e, Bool.true_and] at h; exact h
  · rw [e, Bool.false_and] at h; exact h
theorem S_containsfunc_thr {s : List Through} {a : Through} {c : Int} {Q : Bool → Prop} (h : Q (s.any (coverB a c))) : M_containsfunc_thr s a c Q := by
  unfold M_containsfunc_thr M_indexfunc_thr
  refine forIn_any (coverB a c) (fun k x next hq => ?_) s 0 (A := Q true) ?_
  · unfold M_indexfunc_thr_L1 M_CheckSpans1
    have : decide ((k : Int) ≥ 0) = true := by simp
    dsimp only
    rw [this]
    unfold coverB at hq
    refine cnd_of (fun e => S_stack_lies (cnd_of (fun e2 => cnd_of (fun e3 => ?_) (fun e3 => ?_)) (fun e2 => ?_))) (fun e => ?_)
    · rw [e, e2, e3] at hq; exact cnd_iff.2 (by simpa using hq)
    · rw [e, e2, e3] at hq; exact cnd_iff.2 (by simpa using hq)
    · rw [e, e2] at hq; exact cnd_iff.2 (by simpa using hq)
    · rw [e] at hq; exact cnd_iff.2 (by simpa using hq)
  · split
    · rename_i e2; rw [e2] at h; exact h
    · rename_i e2
      rw [show s.any (coverB a c) = false by simpa using e2] at h; exact h
theorem first_false (p : Nat → Bool) : ∀ n : Nat, (List.range n).all p = false → ∃ i, i < n ∧ p i = false ∧ ∀ j, j < i → p j = true
  | 0, h => by simp at h
  | n + 1, h => by
    cases hn : (List.range n).all p with
    | false => obtain ⟨i, h1, h2, h3⟩ := first_false p n hn; exact ⟨i, by omega, h2, h3⟩
    | true =>
      rw [List.range_succ, List.all_append, hn, Bool.true_and] at h
      refine ⟨n, by omega, by simpa using h, fun j hj => ?_⟩
      exact List.all_eq_true.1 hn j (List.mem_range.2 hj)
theorem lp_all {F : (Int → Prop) → Int → Prop} (p : Nat → Bool) (start : Int) (n : Nat) {A D : Prop} (hF : ∀ (X : Int → Prop) (i : Nat), i < n → (if p i = true then X (start + ((i + 1 : Nat) : Int)) else A) → F X (start + (i : Int))) (hd : ∀ X : Int → Prop, D → F X (start + (n : Int)))
    (h : if (List.range n).all p = true then D else A) : lp F start := by
  cases ha : (List.range n).all p with
  | true =>
    rw [if_pos ha] at h
    refine lp_upto (fun i => start + (i : Int)) n (by simp) (fun X i hi hX => hF X i hi ?_) (fun X => hd X h)
    rw [if_pos (List.all_eq_true.1 ha i (List.mem_range.2 hi))]; exact hX
  | false =>
    rw [if_neg (by simp [ha])] at h
    obtain ⟨i0, h1, h2, h3⟩ := first_false p n ha
    refine lp_upto (fun i => start + (i : Int)) i0 (by simp) (fun X i hi hX => hF X i (by omega) ?_) (fun X => hF X i0 h1 ?_)
    · rw [if_pos (h3 i hi)]; exact hX
    · rw [if_neg (by simp [h2])]; exact h
theorem spans_in {n : Int} (hn : n ≤ 60) {l : List Through} (h : firstBad (spanBad n l) l 0 = 0) : ∀ x ∈ l, 1 ≤ x.From ∧ x.From < x.To ∧ x.To ≤ n := by
  intro x hx
  obtain ⟨i, hi⟩ := List.getElem?_of_mem hx
  have := firstBad_ok h i x hi
  unfold spanBad at this
  split at this
  · cases this
  · rename_i hh; omega
theorem heldAt_shift (all : List Through) : ∀ (r : List Through) (k : Nat), firstBad (heldAt all) r k = firstBad (heldAt all) r 0 := by
  intro r k
  have key : ∀ (r : List Through) (k j : Nat), firstBad (heldAt all) r k = firstBad (heldAt all) r j := by
    intro r
    induction r with
    | nil => intro k j; rfl
    | cons x r ih => intro k j; unfold firstBad; have : heldAt all k x = heldAt all j x := rfl; rw [this, ih (k + 1) (j + 1)]
  exact key r k 0
theorem allOf_in {m : List Material} {s : List Layer} {l : List Through} (hs : s.length ≤ 60) (hl : ∀ x ∈ l, SpanIn x) : ∀ x ∈ (allOf m s l).drop (coresOf m s).length, SpanIn x := by
  intro x hx
  unfold allOf at hx
  rw [List.drop_left'] at hx
  · have h1 := (sortSpans_perm _).subset hx
    rcases pressed_mem _ _ _ _ h1 with h | h
    · simp at h
    · rcases List.mem_append.1 h with h | h
      · exact hl x h
      · have := copOf_len m s
        simp at h; subst h; unfold SpanIn wholeOf; simp only; omega
  · rfl
theorem S_stack_CheckSpans {m : List Material} {s : List Layer} {l : List Through} (hmf : Fits.fits m) (hf : Fits.fits s) {Q : Int → Prop} (h : Q (spansFault m s l)) : M_stack_CheckSpans m s l Q := by
  unfold M_stack_CheckSpans
  unfold spansFault at h
  refine S_stack_CheckStack hmf hf (cnd_of (fun e => ?_) (fun e => ?_))
  · rw [if_pos (by simpa using e)] at h; exact h
  have e0 : stackFault m s = 0 := by simpa using e
  rw [if_neg (by simpa using e)] at h
  obtain ⟨hm, hsl, _⟩ := stack_ok e0
  have hcp := copOf_len m s
  refine cnd_of (fun e => ?_) (fun e => ?_)
  · rw [if_pos (by simpa using e)] at h; exact h
  rw [if_neg (by simpa using e)] at h
  have hll : l.length ≤ 200 := by simp at e; omega
  refine S_stack_coppers hm (by omega) ?_
  refine forIn_check (spanBad (copOf m s).length l) (fun k x next hx h1 h0 => ?_) (Q := Q) ?_
  · have hk := lt_of_get hx
    unfold M_stack_CheckSpans_L1 M_stack_CheckSpans_k7
    unfold spanBad at h1 h0
    have tail : ¬ (x.From < 1 ∨ x.To > (copOf m s).length ∨ x.To ≤ x.From) → cnd (decide ((k : Int) > 0)) (idx l (w64 ((k : Int) - 1)) fun x1 => cnd (decide (x.From < x1.From)) (M_stack_CheckSpans_k8 Q (next ()) true) (cnd (x.From == x1.From) (M_stack_CheckSpans_k8 Q (next ()) (decide (x.To ≤ x1.To))) (M_stack_CheckSpans_k8 Q (next ()) false))) (M_stack_CheckSpans_k8 Q (next ()) false) := fun hn => by
      rw [if_neg hn] at h1 h0
      unfold M_stack_CheckSpans_k8
      refine cnd_of (fun e => ?_) (fun e => cnd_of (fun e => by cases e) (fun _ => h0 (by rw [if_neg (by simp at e; omega)])))
      have hk0 : 0 < k := by simp at e; omega
      have hw : w64 ((k : Int) - 1) = ((k - 1 : Nat) : Int) := by rw [w64_id] <;> omega
      rw [hw]
      refine idx_nat (x := l.getD (k - 1) default) (by rw [List.getD_eq_getElem?_getD, List.getElem?_eq_getElem (by omega)]; rfl) ?_
      generalize l.getD (k - 1) default = y at *
      refine cnd_of (fun e1 => cnd_of (fun _ => ?_) (fun e => by cases e)) (fun e1 => cnd_of (fun e2 => cnd_of (fun e3 => ?_) (fun e3 => ?_)) (fun e2 => cnd_of (fun e => by cases e) (fun _ => ?_)))
      · rw [if_pos ⟨hk0, .inl (by simpa using e1)⟩] at h1; exact h1 (by decide)
      · rw [if_pos ⟨hk0, .inr ⟨by simpa using e2, by simpa using e3⟩⟩] at h1; exact h1 (by decide)
      · exact h0 (by rw [if_neg (by simp at e1 e2 e3; omega)])
      · exact h0 (by rw [if_neg (by simp at e1 e2; omega)])
    refine cnd_of (fun e1 => cnd_of (fun _ => ?_) (fun e => by cases e)) (fun e1 => cnd_of (fun e2 => cnd_of (fun _ => ?_) (fun e => by cases e)) (fun e2 => cnd_of (fun e3 => ?_) (fun e3 => ?_)))
    · rw [if_pos (.inl (by simpa using e1))] at h1; exact h1 (by decide)
    · rw [if_pos (.inr (.inl (by simpa using e2)))] at h1; exact h1 (by decide)
    · rw [if_pos (.inr (.inr (by simpa using e3)))] at h1; exact h1 (by decide)
    · exact tail (by simp at e1 e2 e3; omega)
  · split
    · rename_i eb
      rw [if_neg (by rw [eb]; simp)] at h
      have hin := spans_in (by omega) eb
      have hspan : ∀ x ∈ l, SpanIn x := fun x hx => by have := hin x hx; unfold SpanIn; omega
      refine S_stack_boards hm hsl hspan hll ?_
      refine forIn_check (clashAt (allOf m s l)) (fun k x next hx h1 h0 => ?_) (Q := Q) ?_
      · have hk := lt_of_get hx
        unfold M_stack_CheckSpans_L2
        unfold clashAt at h1 h0
        refine ⟨⟨Int.natCast_nonneg _, by omega⟩, ?_⟩
        rw [Int.toNat_natCast]
        refine forIn_any (clashB x) (fun j y nx hq => ?_) ((allOf m s l).take k) 0 (A := Q 12) ?_
        · unfold M_stack_CheckSpans_L5 M_stack_CheckSpans_k6
          unfold clashB at hq
          refine cnd_of (fun e1 => cnd_of (fun e2 => S_stack_lies (cnd_of (fun e3 => S_stack_lies ?_) (fun e3 => cnd_of (fun e => by cases e) (fun _ => ?_)))) (fun e2 => cnd_of (fun e => by cases e) (fun _ => ?_))) (fun e1 => cnd_of (fun e => by cases e) (fun _ => ?_))
          · rw [e1, e2, e3, Bool.true_and, Bool.true_and, Bool.true_and] at hq
            exact cnd_iff.2 hq
          · rw [e1, e2, e3] at hq; simpa using hq
          · rw [e1, e2] at hq; simpa using hq
          · rw [e1] at hq; simpa using hq
        · split
          · rename_i ec; rw [if_pos ec] at h1; exact h1 (by decide)
          · rename_i ec; rw [if_neg ec] at h0; exact h0 rfl
      · split
        · rename_i ec
          rw [if_neg (by rw [ec]; simp)] at h
          have hcl : (coresOf m s).length ≤ (allOf m s l).length := by unfold allOf; rw [List.length_append]; omega
          refine ⟨⟨Int.natCast_nonneg _, by omega, Int.le_refl _⟩, ?_⟩
          have es : seg (allOf m s l) ((coresOf m s).length : Int) ((allOf m s l).length : Int) = (allOf m s l).drop (coresOf m s).length := by unfold seg; rw [Int.toNat_natCast, Int.toNat_natCast, List.take_length]
          rw [es]
          have hdin := allOf_in (m := m) hsl hspan
          refine forIn_check (heldAt (allOf m s l)) (fun k x next hx h1 h0 => ?_) (Q := Q) (by split <;> rename_i e9; rw [e9] at h; exact h; exact h)
          have hxin := hdin x (List.mem_of_getElem? hx)
          unfold SpanIn at hxin
          unfold heldAt heldB at h1 h0
          unfold M_stack_CheckSpans_L3
          rw [w64_id (by omega) (by omega)]
          refine lp_all (fun i => (allOf m s l).any (coverB x (x.From + 1 + (i : Int)))) (x.From + 1) (x.To - x.From - 1).toNat (A := Q 11) (D := next ()) (fun X i hi hX => ?_) (fun X hD => ?_) ?_
          · unfold M_stack_CheckSpans_L4
            refine cnd_of (fun _ => S_containsfunc_thr ?_) (fun e => by simp at e; omega)
            rw [show w64 (x.From + 1 + (i : Int) + 1) = x.From + 1 + ((i + 1 : Nat) : Int) by rw [w64_id] <;> omega]
            refine cnd_of (fun e => ?_) (fun e => ?_)
            · rw [if_neg (by simpa using e)] at hX; exact hX
            · rw [if_pos (by simpa using e)] at hX; exact hX
          · unfold M_stack_CheckSpans_L4
            exact cnd_of (fun e => by simp at e; omega) (fun _ => hD)
          · split
            · rename_i e9; rw [if_pos e9] at h0; exact h0 rfl
            · rename_i e9; rw [if_neg e9] at h1; exact h1 (by decide)
        · rename_i ec
          rw [if_pos ec] at h; exact h
    · rename_i eb
      rw [if_pos eb] at h; exact h
end Go.Proofs.Ytjkkefhfbcgahaa
