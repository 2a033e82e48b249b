/- Chapter texts of ours, as far as the claim needs them. -/
import Derived.Test.YtbegofbmbcghdaaGreatDoorStackH
import Derived.Test.YtbegofbmbcghdaaGreatDoorRev
namespace Go.Proofs.YtbegofbmbcghdaaGreatDoor
open Go Go.RowKit
set_option linter.unusedVariables false
set_option linter.unusedSectionVars false
set_option linter.unusedSimpArgs false
def oL (m : List eY) (st : List Through × Int) (x : Layer) : List Through × Int :=
  if jc m x = 1 then (st.1, st.2 + 1) else if jc m x = 2 then (st.1 ++ [⟨st.2, st.2 + 1⟩], st.2) else st
def jl (m : List eY) (s : List Layer) : List Through := (s.foldl (oL m) ([], 0)).1
theorem yA {α β : Type} (f : β → α → β) (b : β) (l : List α) (k : Nat) (x : α) (hx : l[k]? = some x) : (l.take (k + 1)).foldl f b = f ((l.take k).foldl f b) x := by
  rw [List.take_add_one, hx, List.foldl_append]; rfl
theorem yB (m : List eY) : ∀ (s : List Layer) (st : List Through × Int), 0 ≤ st.2 → st.2 ≤ (s.foldl (oL m) st).2 ∧ (s.foldl (oL m) st).2 ≤ st.2 + s.length ∧ (s.foldl (oL m) st).1.length ≤ st.1.length + s.length
  | [], st, _ => by simp
  | x :: r, st, h => by
    have h1 : 0 ≤ (oL m st x).2 ∧ st.2 ≤ (oL m st x).2 ∧ (oL m st x).2 ≤ st.2 + 1 ∧ (oL m st x).1.length ≤ st.1.length + 1 := by
      unfold oL; split
      · simp; omega
      · split
        · simp; omega
        · simp; omega
    have := yB m r (oL m st x) h1.1
    simp only [List.foldl_cons, List.length_cons]
    omega
theorem Jo {m : List eY} (hm : Aq m) {s : List Layer} (hs : s.length ≤ 1000) {Q : List Through → Prop} (h : Q (jl m s)) : vH m s Q := by
  unfold vH
  refine iQ (fun k st => st = (s.take k).foldl (oL m) ([], 0)) rfl (fun k x st hx hI next hn => ?_) (fun st hI => ?_)
  · have hk := TL hx
    have hb := yB m (s.take k) ([], 0) (Int.le_refl _)
    have hl : (s.take k).length = k := by rw [List.length_take]; omega
    rw [← hI, hl] at hb
    simp only [List.length_nil, Nat.zero_add] at hb
    have hX := hn _ (yA (oL m) ([], 0) s k x hx).symm
    rw [← hI] at hX
    unfold oL at hX
    unfold rq
    have hw : w64 (st.2 + 1) = st.2 + 1 := gV (by omega) (by omega)
    refine wF hm (eU (fun e => ?_) (fun e => eU (fun e2 => ?_) (fun e2 => ?_)))
    · rw [if_pos (by simpa using e)] at hX; rw [hw]; exact hX
    · rw [if_neg (by simpa using e), if_pos (by simpa using e2)] at hX
      rw [hw]
      exact ⟨lX (by simp only [List.length_append, List.length_singleton]; omega) (by omega), hX⟩
    · rw [if_neg (by simpa using e), if_neg (by simpa using e2)] at hX; exact hX
  · subst hI; rw [List.take_length]; exact h
theorem F7 (m : List eY) (s : List Layer) : (jl m s).length ≤ s.length := by
  have := (yB m s ([], 0) (Int.le_refl _)).2.2; simpa [jl] using this
theorem BG {s : List Through} {v : Through} {Q : Bool → Prop} (h : Q (decide (v ∈ s))) : rY s v Q := by
  unfold rY zC
  refine Ak (fun x => decide (v = x)) (fun k x next hq => ?_) s 0 (A := Q true) ?_
  · unfold uh
    have : decide ((k : Int) ≥ 0) = true := by simp
    dsimp only
    rw [this]; exact zG.2 hq
  · have e : s.any (fun x => decide (v = x)) = decide (v ∈ s) := by rw [Bool.eq_iff_iff]; simp
    rw [e]
    split
    · rename_i e2; rw [e2] at h; exact h
    · rename_i e2
      rw [show decide (v ∈ s) = false by simpa using e2] at h; exact h
def qR (base acc : List Through) (x : Through) : List Through := if x ∈ base ∨ x ∈ acc then acc else acc ++ [x]
def uK (base l : List Through) : List Through := l.foldl (qR base) []
def vZ (p : List Through) : List Through := p.mergeSort (fun a b => decide (¬ rJ b a < 0))
def qh (m : List eY) (s : List Layer) : Through := ⟨1, (sW m s).length⟩
def allOf (m : List eY) (s : List Layer) (l : List Through) : List Through := jl m s ++ vZ (uK (jl m s) (l ++ [qh m s]))
def yF (x : Through) : Prop := 0 ≤ x.From ∧ x.From ≤ 1000 ∧ 0 ≤ x.To ∧ x.To ≤ 1000
theorem zJ (base : List Through) : ∀ (l acc : List Through) (x : Through), x ∈ l.foldl (qR base) acc → x ∈ acc ∨ x ∈ l
  | [], acc, x, h => .inl h
  | y :: l, acc, x, h => by
    rcases zJ base l (qR base acc y) x h with h | h
    · unfold qR at h
      split at h
      · exact .inl h
      · rcases List.mem_append.1 h with h | h
        · exact .inl h
        · exact .inr (by simp at h; simp [h])
    · exact .inr (List.mem_cons_of_mem _ h)
theorem zQ (base : List Through) : ∀ (l acc : List Through), (l.foldl (qR base) acc).length ≤ acc.length + l.length
  | [], acc => by simp
  | y :: l, acc => by
    have := zQ base l (qR base acc y)
    have h2 : (qR base acc y).length ≤ acc.length + 1 := by unfold qR; split <;> simp
    simp only [List.foldl_cons, List.length_cons]; omega
theorem nJ (p : List Through) : (vZ p).Perm p := List.mergeSort_perm _ _
theorem Ap (p : List Through) : (vZ p).Pairwise (fun a b => ¬ rJ b a < 0) := by
  have := List.pairwise_mergeSort (le := fun a b => decide (¬ rJ b a < 0)) (fun a b c h1 h2 => by
    have h1 := of_decide_eq_true h1; have h2 := of_decide_eq_true h2
    refine decide_eq_true ?_
    rw [rZ] at *; omega) (fun a b => by
    simp only [Bool.or_eq_true, decide_eq_true_eq]
    rw [rZ, rZ]; omega) p
  exact this.imp (fun h => of_decide_eq_true h)
theorem Il {p : List Through} (hp : ∀ x ∈ p, yF x) (hl : p.length ≤ 1000000) {Q : List Through → Prop} (h : Q (vZ p)) : wG p Q := by
  refine ⟨by omega, fun t ht hs => ?_⟩
  have : t = vZ p := by
    refine List.Perm.eq_of_pairwise (fun a b ha hb h1 h2 => ?_) hs (Ap p) (ht.trans (nJ p).symm)
    have ia := hp a (ht.subset ha)
    have ib := hp b ((nJ p).subset hb)
    rw [rZ] at h1 h2
    unfold yF at ia ib
    rw [gV (by omega) (by omega), gV (by omega) (by omega)] at h1 h2
    cases a; cases b
    simp only at *
    congr 1 <;> omega
  rw [this]; exact h
theorem MI {s : List Through} (hs : s.length ≤ 100000) {Q : List Through → Prop} (h : Q s) : yw s Q := by
  unfold yw
  exact IV (lX (by omega) (by omega)) h
theorem yS (m : List eY) (s : List Layer) : (sW m s).length ≤ s.length := CG m s s.length
theorem BV {m : List eY} (hm : Aq m) {s : List Layer} (hs : s.length ≤ 60) {l : List Through} (hl : ∀ x ∈ l, yF x) (hll : l.length ≤ 200) {Q : List Through → Int → Prop} (h : Q (allOf m s l) ((jl m s).length : Int)) : o8 m s l Q := by
  unfold o8
  have hcl := F7 m s
  have hcp := yS m s
  refine Jo hm (by omega) (MI (by omega) (yD hm (by omega) ⟨lX (by simp only [List.length_append, List.length_singleton]; omega) (by omega), ?_⟩))
  show forIn' _ _ (l ++ [qh m s]) 0 _
  refine iQ (fun k acc => acc = ((l ++ [qh m s]).take k).foldl (qR (jl m s)) []) rfl (fun k x acc hx hI next hn => ?_) (fun acc hI => ?_)
  · have hk := TL hx
    have hX := hn _ (yA (qR (jl m s)) [] _ k x hx).symm
    rw [← hI] at hX
    have hlen := zQ (jl m s) ((l ++ [qh m s]).take k) []
    rw [← hI, List.length_take] at hlen
    simp only [List.length_nil, Nat.zero_add, List.length_append, List.length_singleton] at hlen
    unfold qR at hX
    unfold qA qy
    refine BG (eU (fun e => BG (eU (fun e2 => ?_) (fun e2 => ?_))) (fun e => eU (fun e => by cases e) (fun _ => ?_)))
    · rw [if_neg (by simp at e e2; simp [e, e2])] at hX
      exact ⟨lX (by simp only [List.length_append, List.length_singleton]; omega) (by omega), hX⟩
    · rw [if_pos (by simp at e2; simp [e2])] at hX; exact hX
    · rw [if_pos (by simp at e; simp [e])] at hX; exact hX
  · subst hI
    rw [List.take_length]
    have hlen := zQ (jl m s) (l ++ [qh m s]) []
    simp only [List.length_nil, Nat.zero_add, List.length_append, List.length_singleton] at hlen
    refine Il (fun x hx => ?_) (by omega) ⟨lX ?_ (by omega), h⟩
    · rcases zJ _ _ _ _ hx with h | h
      · simp at h
      · rcases List.mem_append.1 h with h | h
        · exact hl x h
        · simp at h; subst h; unfold yF qh; simp only; omega
    · have h5 := (nJ (uK (jl m s) (l ++ [qh m s]))).length_eq
      have h6 : (uK (jl m s) (l ++ [qh m s])).length ≤ l.length + 1 := hlen
      show (jl m s ++ vZ (uK (jl m s) (l ++ [qh m s]))).length * 16 ≤ _
      rw [List.length_append]
      omega
def Cc (n : Int) (l : List Through) (k : Nat) (x : Through) : Int :=
  if x.From < 1 ∨ x.To > n ∨ x.To ≤ x.From then 1
  else if 0 < k ∧ (x.From < (l.getD (k - 1) default).From ∨ (x.From = (l.getD (k - 1) default).From ∧ x.To ≤ (l.getD (k - 1) default).To)) then 8 else 0
def yG (a b : Through) : Bool := decide (a.From ≥ b.From) && decide (a.To ≤ b.To)
def Ns (a b : Through) : Bool := decide (a.From ≤ b.To) && decide (b.From ≤ a.To) && !(yG a b) && !(yG b a)
def GY (all : List Through) (k : Nat) (x : Through) : Int := if (all.take k).any (Ns x) = true then 12 else 0
def FN (a : Through) (c : Int) (b : Through) : Bool := !(decide (b = a)) && yG b a && decide (b.From ≤ c) && decide (b.To ≥ c)
def Ry (all : List Through) (a : Through) : Bool := (List.range (a.To - a.From - 1).toNat).all (fun i => all.any (FN a (a.From + 1 + (i : Int))))
def Np (all : List Through) (k : Nat) (x : Through) : Int := if Ry all x = true then 0 else 11
def lu (m : List eY) (s : List Layer) (l : List Through) : Int :=
  if lG m s ≠ 0 then lG m s else if (l.length : Int) > 200 then 2
  else if iU (Cc (sW m s).length l) l 0 ≠ 0 then iU (Cc (sW m s).length l) l 0
  else if iU (GY (allOf m s l)) (allOf m s l) 0 ≠ 0 then iU (GY (allOf m s l)) (allOf m s l) 0
  else iU (Np (allOf m s l)) ((allOf m s l).drop (jl m s).length) 0
theorem Bd {a b : Through} {Q : Bool → Prop} (h : Q (yG a b)) : sF a b Q := by
  unfold sF
  unfold yG at h
  refine eU (fun e => ?_) (fun e => ?_)
  · rw [e, Bool.true_and] at h; exact h
  · rw [e, Bool.false_and] at h; exact h
theorem Ee {s : List Through} {a : Through} {c : Int} {Q : Bool → Prop} (h : Q (s.any (FN a c))) : pq s a c Q := by
  unfold pq vI
  refine Ak (FN a c) (fun k x next hq => ?_) s 0 (A := Q true) ?_
  · unfold pO xO
    have : decide ((k : Int) ≥ 0) = true := by simp
    dsimp only
    rw [this]
    unfold FN at hq
    refine eU (fun e => Bd (eU (fun e2 => eU (fun e3 => ?_) (fun e3 => ?_)) (fun e2 => ?_))) (fun e => ?_)
    · rw [e, e2, e3] at hq; exact zG.2 (by simpa using hq)
    · rw [e, e2, e3] at hq; exact zG.2 (by simpa using hq)
    · rw [e, e2] at hq; exact zG.2 (by simpa using hq)
    · rw [e] at hq; exact zG.2 (by simpa using hq)
  · split
    · rename_i e2; rw [e2] at h; exact h
    · rename_i e2
      rw [show s.any (FN a c) = false by simpa using e2] at h; exact h
theorem FY (p : Nat → Bool) : ∀ n : Nat, (List.range n).all p = false → ∃ i, i < n ∧ p i = false ∧ ∀ j, j < i → p j = true
  | 0, h => by simp at h
  | n + 1, h => by
    cases hn : (List.range n).all p with
    | false => obtain ⟨i, h1, h2, h3⟩ := FY p n hn; exact ⟨i, by omega, h2, h3⟩
    | true =>
      rw [List.range_succ, List.all_append, hn, Bool.true_and] at h
      refine ⟨n, by omega, by simpa using h, fun j hj => ?_⟩
      exact List.all_eq_true.1 hn j (List.mem_range.2 hj)
theorem Sm {F : (Int → Prop) → Int → Prop} (p : Nat → Bool) (start : Int) (n : Nat) {A D : Prop} (hF : ∀ (X : Int → Prop) (i : Nat), i < n → (if p i = true then X (start + ((i + 1 : Nat) : Int)) else A) → F X (start + (i : Int))) (hd : ∀ X : Int → Prop, D → F X (start + (n : Int)))
    (h : if (List.range n).all p = true then D else A) : lp F start := by
  cases ha : (List.range n).all p with
  | true =>
    rw [if_pos ha] at h
    refine Ep (fun i => start + (i : Int)) n (by simp) (fun X i hi hX => hF X i hi ?_) (fun X => hd X h)
    rw [if_pos (List.all_eq_true.1 ha i (List.mem_range.2 hi))]; exact hX
  | false =>
    rw [if_neg (by simp [ha])] at h
    obtain ⟨i0, h1, h2, h3⟩ := FY p n ha
    refine Ep (fun i => start + (i : Int)) i0 (by simp) (fun X i hi hX => hF X i (by omega) ?_) (fun X => hF X i0 h1 ?_)
    · rw [if_pos (h3 i hi)]; exact hX
    · rw [if_neg (by simp [h2])]; exact h
theorem L6 {n : Int} (hn : n ≤ 60) {l : List Through} (h : iU (Cc n l) l 0 = 0) : ∀ x ∈ l, 1 ≤ x.From ∧ x.From < x.To ∧ x.To ≤ n := by
  intro x hx
  obtain ⟨i, hi⟩ := List.getElem?_of_mem hx
  have := xY h i x hi
  unfold Cc at this
  split at this
  · cases this
  · rename_i hh; omega
theorem Qr {m : List eY} {s : List Layer} {l : List Through} (hs : s.length ≤ 60) (hl : ∀ x ∈ l, yF x) : ∀ x ∈ (allOf m s l).drop (jl m s).length, yF x := by
  intro x hx
  unfold allOf at hx
  rw [List.drop_left'] at hx
  · have h1 := (nJ _).subset hx
    rcases zJ _ _ _ _ h1 with h | h
    · simp at h
    · rcases List.mem_append.1 h with h | h
      · exact hl x h
      · have := yS m s
        simp at h; subst h; unfold yF qh; simp only; omega
  · rfl
theorem Dz {m : List eY} {s : List Layer} {l : List Through} (hmf : Fits.fits m) (hf : Fits.fits s) {Q : Int → Prop} (h : Q (lu m s l)) : pX m s l Q := by
  unfold pX
  unfold lu at h
  refine zn hmf hf (eU (fun e => ?_) (fun e => ?_))
  · rw [if_pos (by simpa using e)] at h; exact h
  have e0 : lG m s = 0 := by simpa using e
  rw [if_neg (by simpa using e)] at h
  obtain ⟨hm, hsl, _⟩ := wu e0
  have hcp := yS m s
  refine eU (fun e => ?_) (fun e => ?_)
  · rw [if_pos (by simpa using e)] at h; exact h
  rw [if_neg (by simpa using e)] at h
  have hll : l.length ≤ 200 := by simp at e; omega
  refine yD hm (by omega) ?_
  refine wo (Cc (sW m s).length l) (fun k x next hx h1 h0 => ?_) (Q := Q) ?_
  · have hk := TL hx
    unfold mF jW
    unfold Cc at h1 h0
    have tail : ¬ (x.From < 1 ∨ x.To > (sW m s).length ∨ x.To ≤ x.From) → cnd (decide ((k : Int) > 0)) (idx l (w64 ((k : Int) - 1)) fun x1 => cnd (decide (x.From < x1.From)) (ig Q (next ()) true) (cnd (x.From == x1.From) (ig Q (next ()) (decide (x.To ≤ x1.To))) (ig Q (next ()) false))) (ig Q (next ()) false) := fun hn => by
      rw [if_neg hn] at h1 h0
      unfold ig
      refine eU (fun e => ?_) (fun e => eU (fun e => by cases e) (fun _ => h0 (by rw [if_neg (by simp at e; omega)])))
      have hk0 : 0 < k := by simp at e; omega
      have hw : w64 ((k : Int) - 1) = ((k - 1 : Nat) : Int) := by rw [gV] <;> omega
      rw [hw]
      refine gW (x := l.getD (k - 1) default) (by rw [List.getD_eq_getElem?_getD, List.getElem?_eq_getElem (by omega)]; rfl) ?_
      generalize l.getD (k - 1) default = y at *
      refine eU (fun e1 => eU (fun _ => ?_) (fun e => by cases e)) (fun e1 => eU (fun e2 => eU (fun e3 => ?_) (fun e3 => ?_)) (fun e2 => eU (fun e => by cases e) (fun _ => ?_)))
      · rw [if_pos ⟨hk0, .inl (by simpa using e1)⟩] at h1; exact h1 (by decide)
      · rw [if_pos ⟨hk0, .inr ⟨by simpa using e2, by simpa using e3⟩⟩] at h1; exact h1 (by decide)
      · exact h0 (by rw [if_neg (by simp at e1 e2 e3; omega)])
      · exact h0 (by rw [if_neg (by simp at e1 e2; omega)])
    refine eU (fun e1 => eU (fun _ => ?_) (fun e => by cases e)) (fun e1 => eU (fun e2 => eU (fun _ => ?_) (fun e => by cases e)) (fun e2 => eU (fun e3 => ?_) (fun e3 => ?_)))
    · rw [if_pos (.inl (by simpa using e1))] at h1; exact h1 (by decide)
    · rw [if_pos (.inr (.inl (by simpa using e2)))] at h1; exact h1 (by decide)
    · rw [if_pos (.inr (.inr (by simpa using e3)))] at h1; exact h1 (by decide)
    · exact tail (by simp at e1 e2 e3; omega)
  · split
    · rename_i eb
      rw [if_neg (by rw [eb]; simp)] at h
      have hin := L6 (by omega) eb
      have hspan : ∀ x ∈ l, yF x := fun x hx => by have := hin x hx; unfold yF; omega
      refine BV hm hsl hspan hll ?_
      refine wo (GY (allOf m s l)) (fun k x next hx h1 h0 => ?_) (Q := Q) ?_
      · have hk := TL hx
        unfold ku
        unfold GY at h1 h0
        refine ⟨⟨Int.natCast_nonneg _, by omega⟩, ?_⟩
        rw [Int.toNat_natCast]
        refine Ak (Ns x) (fun j y nx hq => ?_) ((allOf m s l).take k) 0 (A := Q 12) ?_
        · unfold mD jr
          unfold Ns at hq
          refine eU (fun e1 => eU (fun e2 => Bd (eU (fun e3 => Bd ?_) (fun e3 => eU (fun e => by cases e) (fun _ => ?_)))) (fun e2 => eU (fun e => by cases e) (fun _ => ?_))) (fun e1 => eU (fun e => by cases e) (fun _ => ?_))
          · rw [e1, e2, e3, Bool.true_and, Bool.true_and, Bool.true_and] at hq
            exact zG.2 hq
          · rw [e1, e2, e3] at hq; simpa using hq
          · rw [e1, e2] at hq; simpa using hq
          · rw [e1] at hq; simpa using hq
        · split
          · rename_i ec; rw [if_pos ec] at h1; exact h1 (by decide)
          · rename_i ec; rw [if_neg ec] at h0; exact h0 rfl
      · split
        · rename_i ec
          rw [if_neg (by rw [ec]; simp)] at h
          have hcl : (jl m s).length ≤ (allOf m s l).length := by unfold allOf; rw [List.length_append]; omega
          refine ⟨⟨Int.natCast_nonneg _, by omega, Int.le_refl _⟩, ?_⟩
          have es : seg (allOf m s l) ((jl m s).length : Int) ((allOf m s l).length : Int) = (allOf m s l).drop (jl m s).length := by unfold seg; rw [Int.toNat_natCast, Int.toNat_natCast, List.take_length]
          rw [es]
          have hdin := Qr (m := m) hsl hspan
          refine wo (Np (allOf m s l)) (fun k x next hx h1 h0 => ?_) (Q := Q) (by split <;> rename_i e9; rw [e9] at h; exact h; exact h)
          have hxin := hdin x (List.mem_of_getElem? hx)
          unfold yF at hxin
          unfold Np Ry at h1 h0
          unfold jy
          rw [gV (by omega) (by omega)]
          refine Sm (fun i => (allOf m s l).any (FN x (x.From + 1 + (i : Int)))) (x.From + 1) (x.To - x.From - 1).toNat (A := Q 11) (D := next ()) (fun X i hi hX => ?_) (fun X hD => ?_) ?_
          · unfold kz
            refine eU (fun _ => Ee ?_) (fun e => by simp at e; omega)
            rw [show w64 (x.From + 1 + (i : Int) + 1) = x.From + 1 + ((i + 1 : Nat) : Int) by rw [gV] <;> omega]
            refine eU (fun e => ?_) (fun e => ?_)
            · rw [if_neg (by simpa using e)] at hX; exact hX
            · rw [if_pos (by simpa using e)] at hX; exact hX
          · unfold kz
            exact eU (fun e => by simp at e; omega) (fun _ => hD)
          · split
            · rename_i e9; rw [if_pos e9] at h0; exact h0 rfl
            · rename_i e9; rw [if_neg e9] at h1; exact h1 (by decide)
        · rename_i ec
          rw [if_pos ec] at h; exact h
    · rename_i eb
      rw [if_pos eb] at h; exact h
end Go.Proofs.YtbegofbmbcghdaaGreatDoor
