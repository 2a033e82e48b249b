/- Chapter texts of ours, as far as the claim needs them. -/
import Derived.Test.YtfjcgoiedlimdaaGreatDoorPure
import Derived.Test.YtfjcgoiedlimdaaGreatDoorRtA
namespace Go.Proofs.YtfjcgoiedlimdaaGreatDoor
open Go Go.RowKit
set_option linter.unusedVariables false
set_option linter.unusedSectionVars false
set_option linter.unusedSimpArgs false
theorem yR {α : Type} {body : Nat → α → Unit → (Unit → Prop) → Prop} {done : Unit → Prop} {A : Prop} (p : α → Bool)
    (hb : ∀ k x next, (if p x = true then A else next ()) → body k x () next) :
    ∀ (l : List α) (k : Nat), (if l.any p = true then A else done ()) → forIn' body done l k ()
  | [], _, h => by show done (); simpa using h
  | x :: r, k, h => by
    refine hb k x _ ?_
    by_cases hp : p x = true
    · rw [if_pos hp]; rw [if_pos (by simp [hp])] at h; exact h
    · rw [if_neg hp]
      refine yR p hb r (k + 1) ?_
      have : (x :: r).any p = r.any p := by simp [hp]
      rw [this] at h; exact h
theorem BQ {α : Type} {body : Nat → α → Unit → (Unit → Prop) → Prop} {done : Unit → Prop} {A : Nat → Prop} (p : α → Bool)
    (hb : ∀ k x next, (if p x = true then A k else next ()) → body k x () next) :
    ∀ (l : List α) (k : Nat), (match l.findIdx? p with | some i => A (k + i) | none => done ()) → forIn' body done l k ()
  | [], _, h => by show done (); simpa using h
  | x :: r, k, h => by
    refine hb k x _ ?_
    by_cases hp : p x = true
    · rw [if_pos hp]; simp [List.findIdx?_cons, hp] at h; exact h
    · rw [if_neg hp]
      refine BQ p hb r (k + 1) ?_
      simp only [List.findIdx?_cons, hp, Bool.false_eq_true, if_false] at h
      cases hr : r.findIdx? p with
      | none => simpa [hr] using h
      | some i =>
        simp only [hr, Option.map_some] at h
        show A (k + 1 + i); rw [show k + 1 + i = k + (i + 1) by omega]; exact h
def iM {α : Type} (f : Nat → α → Int) : List α → Nat → Int
  | [], _ => 0
  | x :: r, k => if f k x ≠ 0 then f k x else iM f r (k + 1)
theorem wC {α : Type} {f : Nat → α → Int} : ∀ {l : List α} {k : Nat}, iM f l k = 0 → ∀ i x, l[i]? = some x → f (k + i) x = 0
  | [], _, _, i, x, hx => by simp at hx
  | y :: r, k, h, i, x, hx => by
    unfold iM at h
    split at h
    · rename_i hn; exact absurd h hn
    · rename_i hn
      cases i with
      | zero => simp at hx; subst hx; exact Decidable.not_not.1 hn
      | succ i => have := wC h i x (by simpa using hx); rw [show k + (i + 1) = k + 1 + i by omega]; exact this
theorem Bz {α σ : Type} {body : Nat → α → σ → (σ → Prop) → Prop} {done : σ → Prop} {A : Int → Prop} (f : Nat → α → Int) (g : Nat → σ) :
    ∀ (l : List α) (k : Nat), (∀ i x next, l[i]? = some x → f (k + i) x ≠ 0 → A (f (k + i) x) → body (k + i) x (g (k + i)) next) →
      (∀ i x next, l[i]? = some x → f (k + i) x = 0 → (∀ j y, j < i → l[j]? = some y → f (k + j) y = 0) → next (g (k + i + 1)) → body (k + i) x (g (k + i)) next) →
      (iM f l k ≠ 0 → A (iM f l k)) → (iM f l k = 0 → done (g (k + l.length))) → forIn' body done l k (g k)
  | [], k, _, _, _, hd => hd rfl
  | x :: r, k, h1, h2, ha, hd => by
    by_cases h0 : f k x = 0
    · refine h2 0 x _ rfl h0 (fun j y hj => by omega) ?_
      have e : iM f (x :: r) k = iM f r (k + 1) := by simp [iM, h0]
      rw [e] at ha hd
      refine Bz f g r (k + 1) (fun i y next hy => ?_) (fun i y next hy hf hj hn => ?_) ha (fun h => ?_)
      · have := h1 (i + 1) y next (by simpa using hy)
        rw [show k + 1 + i = k + (i + 1) by omega]; exact this
      · have := h2 (i + 1) y next (by simpa using hy)
        rw [show k + 1 + i = k + (i + 1) by omega] at hf hn ⊢
        refine this hf (fun j z hjl hz => ?_) hn
        cases j with
        | zero => simp at hz; subst hz; exact h0
        | succ j => have := hj j z (by omega) (by simpa using hz); rw [show k + (j + 1) = k + 1 + j by omega]; exact this
      · have := hd h; simp only [List.length_cons] at this; rw [show k + 1 + r.length = k + (r.length + 1) by omega]; exact this
    · refine h1 0 x _ rfl h0 ?_
      have e : iM f (x :: r) k = f k x := by simp [iM, h0]
      rw [e] at ha; exact ha h0
theorem IC {α σ : Type} {body : Nat → α → σ → (σ → Prop) → Prop} {done : σ → Prop} {A : Int → Prop} (f : Nat → α → Int) (g : Nat → σ) {l : List α} {s : σ} (hs : s = g 0)
    (h1 : ∀ i x next, l[i]? = some x → f i x ≠ 0 → A (f i x) → body i x (g i) next)
    (h2 : ∀ i x next, l[i]? = some x → f i x = 0 → (∀ j y, j < i → l[j]? = some y → f j y = 0) → next (g (i + 1)) → body i x (g i) next)
    (ha : iM f l 0 ≠ 0 → A (iM f l 0)) (hd : iM f l 0 = 0 → done (g l.length)) : forIn' body done l 0 s := by
  subst hs
  refine Bz f g l 0 (fun i x next => ?_) (fun i x next => ?_) ha (fun h => ?_)
  · rw [Nat.zero_add]; exact h1 i x next
  · rw [Nat.zero_add]; intro hx hf hj hn; exact h2 i x next hx hf (fun j y hjl hy => by have := hj j y hjl hy; rwa [Nat.zero_add] at this) hn
  · rw [Nat.zero_add]; exact hd h
theorem OI {α : Type} {F : (Int → Prop) → Int → Prop} {xs : List α} (hlen : xs.length ≤ 9223372036854775807) (bad : α → Bool) {A done : Prop}
    (hF : ∀ X n, cnd (decide (n < (xs.length : Int))) (idx xs n fun x => cnd (bad x) A (X (w64 (n + 1)))) done → F X n) (h : if xs.any bad = true then A else done) : lp F 0 := by
  have key : ∀ d (k : Nat), k + d = xs.length → (∀ i x, i < k → xs[i]? = some x → bad x = false) → jW F (d + 1) (k : Int) := by
    intro d
    induction d with
    | zero =>
      intro k hk hb
      refine hF _ _ (fB (fun e => ?_) (fun _ => ?_))
      · simp at e; omega
      · have : xs.any bad = false := by
          rw [List.any_eq_false]; intro x hx
          obtain ⟨i, hi⟩ := List.getElem?_of_mem hx
          have := hb i x (by have := dO hi; omega) hi
          simp [this]
        rw [this] at h; simpa using h
    | succ d ih =>
      intro k hk hb
      refine hF _ _ (fB (fun e => ?_) (fun e => ?_))
      · have hlt : k < xs.length := by omega
        refine gG (List.getElem?_eq_getElem hlt) (fB (fun eb => ?_) (fun eb => ?_))
        · have : xs.any bad = true := List.any_eq_true.2 ⟨_, List.getElem_mem hlt, eb⟩
          rw [this] at h; simpa using h
        · have hw : w64 ((k : Int) + 1) = ((k + 1 : Nat) : Int) := by rw [fO] <;> omega
          rw [hw]
          refine ih (k + 1) (by omega) (fun i x hi hx => ?_)
          rcases Nat.lt_or_ge i k with h1 | h1
          · exact hb i x h1 hx
          · obtain rfl : i = k := by omega
            rw [List.getElem?_eq_getElem hlt] at hx; injection hx with hx; subst hx; exact eb
      · simp at e; omega
  exact ⟨_, key xs.length 0 (by omega) (fun i x hi => by omega)⟩
theorem Kw {α : Type} [DecidableEq α] {xs ys : List α} {Q : Bool → Prop} {body : Nat → α → Unit → (Unit → Prop) → Prop} (hb : ∀ (k : Nat) (x : α) (next : Unit → Prop), idx ys (k : Int) (fun y => cnd (!(decide (x = y))) (Q false) (next ())) → body k x () next)
    (h : Q (decide (xs = ys))) : cnd ((xs.length : Int) != (ys.length : Int)) (Q false) (forIn' body (fun _ => Q true) xs 0 ()) := by
  refine fB (fun e => ?_) (fun e => ?_)
  · simp at e
    have hne : xs ≠ ys := fun he => e (by rw [he])
    simpa [hne] using h
  · simp at e
    refine jO (fun k _ => ∀ i, i < k → xs[i]? = ys[i]?) (fun i h => by omega) (fun k x s hx hI next hn => ?_) (fun s hI => ?_)
    · have hk := dO hx
      refine hb _ _ _ (gG (List.getElem?_eq_getElem (by omega)) (fB (fun e2 => ?_) (fun e2 => hn _ (fun i hi => ?_))))
      · have hne : xs ≠ ys := fun he => by subst he; rw [List.getElem?_eq_getElem hk] at hx; injection hx with hx; simp [hx] at e2
        simpa [hne] using h
      · rcases Nat.lt_or_ge i k with hlt | hge
        · exact hI i hlt
        · have : i = k := by omega
          subst this
          simp at e2
          rw [hx, e2, List.getElem?_eq_getElem]
    · have he : xs = ys := by
        apply List.ext_getElem?
        intro i
        rcases Nat.lt_or_ge i xs.length with hlt | hge
        · exact hI i hlt
        · rw [List.getElem?_eq_none hge, List.getElem?_eq_none (by omega)]
      simpa [he] using h
def wE {α : Type} (r : α → Int) (l : List α) (k : Nat) : Int := ((l[k]?).map r).getD 0
def yP {α : Type} (l : List α) (i j : Nat) (x y : α) : List α := (l.set i y).set j x
section
variable {α : Type} {r : α → Int} {l : List α} {i j : Nat} {x y : α}
theorem jm (h : l[i]? = some x) : wE r l i = r x := by unfold wE; rw [h]; rfl
theorem xQ (hi : l[i]? = some x) (hj : l[j]? = some y) : (yP l i j x y).Perm l := by
  obtain ⟨h1, e1⟩ := List.getElem?_eq_some_iff.1 hi
  obtain ⟨h2, e2⟩ := List.getElem?_eq_some_iff.1 hj
  unfold yP
  rw [← e1, ← e2]
  exact List.set_set_perm h1 h2
theorem MC : (yP l i j x y).length = l.length := by unfold yP; simp
theorem Ae (hi : l[i]? = some x) (hj : l[j]? = some y) (k : Nat) : wE r (yP l i j x y) k = if k = i then wE r l j else if k = j then wE r l i else wE r l k := by
  have h1 := (List.getElem?_eq_some_iff.1 hi).1
  have h2 := (List.getElem?_eq_some_iff.1 hj).1
  rw [jm hi, jm hj]
  unfold wE yP
  simp only [List.getElem?_set, List.length_set]
  by_cases h3 : k = i
  · subst h3
    by_cases h4 : j = k
    · subst h4; rw [hi] at hj; injection hj with hj; subst hj; simp [h1]
    · simp [h1, h4]
  · by_cases h4 : j = k
    · subst h4; simp [h2, h3]
    · have h5 : ¬ k = j := fun e => h4 e.symm
      have h6 : ¬ i = k := fun e => h3 e.symm
      simp only [h4, if_false, h3, h5, h6]
end
def HpF (g : Nat → Int) (n b : Nat) : Prop := ∀ k, 0 < k → k < n → b ≤ (k - 1) / 2 → g ((k - 1) / 2) ≤ g k
def UpI (g : Nat → Int) (n j : Nat) : Prop := (∀ k, 0 < k → k < n → k ≠ j → g ((k - 1) / 2) ≤ g k) ∧ ∀ k, 0 < k → k < n → (k - 1) / 2 = j → 0 < j → g ((j - 1) / 2) ≤ g k
def DnI (g : Nat → Int) (n b i : Nat) : Prop := (∀ k, 0 < k → k < n → b ≤ (k - 1) / 2 → (k - 1) / 2 ≠ i → g ((k - 1) / 2) ≤ g k) ∧ ∀ k, 0 < k → k < n → (k - 1) / 2 = i → 0 < i → b ≤ (i - 1) / 2 → g ((i - 1) / 2) ≤ g k
section
variable {g g' : Nat → Int} {n b i j : Nat}
theorem UpI.step (h : UpI g n j) (hj : 0 < j) (hjn : j < n) (hlt : g j < g ((j - 1) / 2)) (hs : ∀ k, g' k = if k = (j - 1) / 2 then g j else if k = j then g ((j - 1) / 2) else g k) : UpI g' n ((j - 1) / 2) := by
  obtain ⟨h1, h2⟩ := h
  refine ⟨fun k hk hkn hne => ?_, fun k hk hkn hp hi => ?_⟩
  · rw [hs, hs]
    by_cases e1 : k = j
    · subst e1
      rw [if_pos rfl, if_neg (by omega), if_pos rfl]; omega
    · by_cases e2 : (k - 1) / 2 = j
      · rw [if_neg (by omega), if_pos e2, if_neg hne, if_neg e1]; exact h2 k hk hkn e2 hj
      · by_cases e3 : (k - 1) / 2 = (j - 1) / 2
        · rw [if_pos e3, if_neg hne, if_neg e1]; have := h1 k hk hkn e1; rw [e3] at this; omega
        · rw [if_neg e3, if_neg e2, if_neg hne, if_neg e1]; exact h1 k hk hkn e1
  · rw [hs, hs]
    have h3 := h1 ((j - 1) / 2) hi (by omega) (by omega)
    by_cases e1 : k = j
    · subst e1
      rw [if_neg (by omega), if_neg (by omega), if_neg (by omega), if_pos rfl]; exact h3
    · rw [if_neg (by omega), if_neg (by omega), if_neg (by omega), if_neg e1]
      have := h1 k hk hkn e1; rw [hp] at this; omega
theorem UpI.stop (h : UpI g n j) (hd : 0 < j → g ((j - 1) / 2) ≤ g j) : HpF g n 0 := fun k hk hkn _ => by
  by_cases e : k = j
  · subst e; exact hd hk
  · exact h.1 k hk hkn e
theorem UpI.last (h : HpF g n 0) : UpI g (n + 1) n := ⟨fun k hk hkn hne => h k hk (by omega) (Nat.zero_le _), fun k hk hkn hp _ => by omega⟩
theorem DnI.step (h : DnI g n b i) (hb : b ≤ i) (hj : j < n) (hji : 0 < j ∧ (j - 1) / 2 = i) (hmin : ∀ k, 0 < k → k < n → (k - 1) / 2 = i → g j ≤ g k) (hlt : g j < g i) (hs : ∀ k, g' k = if k = i then g j else if k = j then g i else g k) : DnI g' n b j := by
  obtain ⟨h1, h2⟩ := h
  refine ⟨fun k hk hkn hbk hne => ?_, fun k hk hkn hp hj0 hbj => ?_⟩
  · rw [hs, hs]
    by_cases e1 : k = j
    · subst e1; rw [if_pos hji.2, if_neg (by omega), if_pos rfl]; omega
    · by_cases e2 : k = i
      · subst e2
        rw [if_neg (by omega), if_neg (by omega), if_pos rfl]
        exact h2 j hji.1 hj hji.2 hk hbk
      · by_cases e3 : (k - 1) / 2 = i
        · rw [if_pos e3, if_neg e2, if_neg e1]; exact hmin k hk hkn e3
        · rw [if_neg e3, if_neg hne, if_neg e2, if_neg e1]; exact h1 k hk hkn hbk e3
  · rw [hs, hs, if_pos hji.2, if_neg (by omega), if_neg (by omega)]
    have := h1 k hk hkn (by omega) (by omega)
    rw [hp] at this; exact this
theorem DnI.stop (h : DnI g n b i) (hd : ∀ k, 0 < k → k < n → (k - 1) / 2 = i → g i ≤ g k) : HpF g n b := fun k hk hkn hb => by
  by_cases e : (k - 1) / 2 = i
  · rw [e]; exact hd k hk hkn e
  · exact h.1 k hk hkn hb e
theorem DnI.first (h : HpF g n (b + 1)) : DnI g n b b := ⟨fun k hk hkn hb hne => h k hk hkn (by omega), fun k hk hkn hp hi hbi => by omega⟩
theorem HpF.min (h : HpF g n 0) : ∀ k, k < n → g 0 ≤ g k := by
  intro k
  induction k using Nat.strongRecOn with
  | _ k ih =>
    intro hk
    rcases Nat.eq_zero_or_pos k with h0 | h0
    · subst h0; exact Int.le_refl _
    · exact Int.le_trans (ih ((k - 1) / 2) (by omega) (by omega)) (h k h0 hk (Nat.zero_le _))
theorem HpF.congr (h : HpF g n b) {m : Nat} (hm : m ≤ n) (he : ∀ k, k < m → g' k = g k) : HpF g' m b := fun k hk hkn hb => by
  rw [he k hkn, he _ (by omega)]; exact h k hk (by omega) hb
theorem DnI.pop (h : HpF g n 0) {m : Nat} (hm : m ≤ n) (he : ∀ k, 0 < k → k < m → g' k = g k) : DnI g' m 0 0 :=
  ⟨fun k hk hkn _ hne => by rw [he k hk hkn, he _ (by omega) (by omega)]; exact h k hk (by omega) (Nat.zero_le _), fun k hk hkn hp hi _ => by omega⟩
end
theorem oU {σ : Type} {F : (σ → Prop) → σ → Prop} (I : Nat → σ → Prop) {n : Nat} {s : σ} (h : I n s) (step : ∀ n s (X : σ → Prop), I n s → (∀ m s', m < n → I m s' → X s') → F X s) : lp F s := by
  have key : ∀ k n s, n < k → I n s → jW F k s := by
    intro k
    induction k with
    | zero => intro n s h; omega
    | succ k ih => intro n s h hI; exact step n s _ hI (fun m s' hm hI' => ih m s' (by omega) hI')
  exact ⟨n + 1, key (n + 1) n s (by omega) h⟩
abbrev rkI (l : List dW) : Nat → Int := wE dW.key l
def xR (l : List dW) : Prop := HpF (rkI l) l.length 0
section
variable {l : List dW} {i j : Nat} {x y : dW}
theorem zq {Q : Bool → Prop} (hi : l[i]? = some x) (hj : l[j]? = some y) (h : Q (decide (x.key < y.key))) : tH l (i : Int) (j : Int) Q := gG hi (gG hj h)
theorem zu {Q : List dW → Prop} (hi : l[i]? = some x) (hj : l[j]? = some y) (h : Q (yP l i j x y)) : tN l (i : Int) (j : Int) Q := by
  have h1 := dO hi
  have h2 := dO hj
  refine gG hj (gG hi ?_)
  simp only [Int.toNat_natCast]
  have h3 : (l.set i y)[j]? = some ((l.set i y)[j]'(by rw [List.length_set]; exact h2)) := List.getElem?_eq_getElem (by rw [List.length_set]; exact h2)
  exact gG h3 h
theorem O3 {j : Nat} (hj : j ≤ 4611686018427387904) : w64 ((w64 ((j : Int) - 1)).tdiv 2) = (((j - 1) / 2 : Nat) : Int) := by
  rcases Nat.eq_zero_or_pos j with h0 | h0
  · subst h0; decide
  · have e1 : w64 ((j : Int) - 1) = (j : Int) - 1 := fO (by omega) (by omega)
    rw [e1, Int.tdiv_eq_ediv_of_nonneg (by omega), fO] <;> omega
theorem Nc {Q : List dW → Prop} {l : List dW} {j : Nat} (hj : j < l.length) (hl : l.length ≤ 4611686018427387904) (hU : UpI (rkI l) l.length j) (h : ∀ l', l'.Perm l → xR l' → Q l') : yF l (j : Int) Q := by
  unfold yF
  refine oU (fun m (s : List dW × Int) => s.2 = (m : Int) ∧ s.1.Perm l ∧ m < l.length ∧ UpI (rkI s.1) l.length m) (n := j) ⟨rfl, .refl _, hj, hU⟩ ?_
  rintro m ⟨l2, n2⟩ X ⟨hn, hp, hm, hu⟩ hX
  simp only at hn hp hu
  subst hn
  have hlen : l2.length = l.length := hp.length_eq
  show sW Q (fun l2 n2 => X (l2, n2)) l2 m
  unfold sW
  rw [O3 (by omega)]
  have hx : l2[m]? = some l2[m] := List.getElem?_eq_getElem (by omega)
  have hy : l2[(m - 1) / 2]? = some l2[(m - 1) / 2] := List.getElem?_eq_getElem (by omega)
  have stop : (0 < m → rkI l2 ((m - 1) / 2) ≤ rkI l2 m) → Q l2 := fun hd => h l2 hp (by unfold xR; rw [hlen]; exact hu.stop hd)
  refine fB (fun e => ?_) (fun e => ?_)
  · unfold sN
    simp only [iJ]
    simp at e
    exact stop (fun h0 => by omega)
  · simp at e
    have h0 : 0 < m := by omega
    refine zq hx hy ?_
    unfold sN
    rw [O3 (by omega)]
    refine fB (fun e2 => ?_) (fun e2 => ?_)
    · simp at e2
      exact stop (fun _ => by rw [rkI, jm hx, jm hy]; exact e2)
    · simp at e2
      refine zu hy hx ?_
      refine hX ((m - 1) / 2) _ (by omega) ⟨rfl, (xQ hy hx).trans hp, by omega, ?_⟩
      exact hu.step h0 (by omega) (by rw [rkI, jm hx, jm hy]; exact e2) (fun k => Ae hy hx k)
theorem Ot {i : Nat} (hi : i ≤ 2305843009213693952) : w64 ((w64 (2 * (i : Int))) + 1) = ((2 * i + 1 : Nat) : Int) ∧ w64 ((w64 ((w64 (2 * (i : Int))) + 1)) + 1) = ((2 * i + 2 : Nat) : Int) := by
  have e1 : w64 (2 * (i : Int)) = 2 * (i : Int) := fO (by omega) (by omega)
  have e2 : w64 (2 * (i : Int) + 1) = 2 * (i : Int) + 1 := fO (by omega) (by omega)
  have e3 : w64 (2 * (i : Int) + 1 + 1) = 2 * (i : Int) + 1 + 1 := fO (by omega) (by omega)
  rw [e1, e2, e3]; omega
theorem EH {Q : Bool → List dW → Prop} {l : List dW} {i n b : Nat} (hn : n ≤ l.length) (hi : i ≤ n) (hl : l.length ≤ 2305843009213693952) (hb : b ≤ i) (hD : DnI (rkI l) n b i) (h : ∀ e l', l'.Perm l → (∀ k, n ≤ k → l'[k]? = l[k]?) → HpF (rkI l') n b → Q e l') : uS l (i : Int) (n : Int) Q := by
  unfold uS
  refine oU (fun m (s : List dW × Int) => ∃ p : Nat, s.2 = (p : Int) ∧ p + m = n ∧ s.1.Perm l ∧ (∀ k, n ≤ k → s.1[k]? = l[k]?) ∧ b ≤ p ∧ DnI (rkI s.1) n b p) (n := n - i) ⟨i, rfl, by omega, .refl _, fun _ _ => rfl, hb, hD⟩ ?_
  rintro m ⟨l2, n2⟩ X ⟨p, hp2, hpm, hp, hk, hbp, hd⟩ hX
  simp only at hp2 hp hk hd
  subst hp2
  have hlen : l2.length = l.length := hp.length_eq
  show qh i n Q (fun l2 n2 => X (l2, n2)) l2 p
  obtain ⟨ej1, ej2⟩ := Ot (i := p) (by omega)
  unfold qh rV
  rw [ej2, ej1]
  have stop : ∀ c, (∀ k, 0 < k → k < n → (k - 1) / 2 = p → rkI l2 p ≤ rkI l2 k) → Q c l2 := fun c hs => h c l2 hp hk (hd.stop hs)
  refine fB (fun e => ?_) (fun e => ?_)
  · simp only [iJ]
    simp at e
    unfold pJ
    exact stop _ (fun k h1 h2 h3 => by omega)
  · simp at e
    have hneg : decide (((2 * p + 1 : Nat) : Int) < 0) = false := by simp; omega
    rw [hneg]; simp only [gY]
    have h1 : 2 * p + 1 < n := by omega
    have hx : l2[p]? = some l2[p] := List.getElem?_eq_getElem (by omega)
    have hy : l2[2 * p + 1]? = some l2[2 * p + 1] := List.getElem?_eq_getElem (by omega)
    -- behind the choice of a child
    have go : ∀ (j : Nat) (z : dW), l2[j]? = some z → 0 < j → j < n → (j - 1) / 2 = p → (∀ k, 0 < k → k < n → (k - 1) / 2 = p → rkI l2 j ≤ rkI l2 k) → pY i Q l2 p (fun l3 n3 => X (l3, n3)) (j : Int) := by
      intro j z hz hj0 hjn hjp hmin
      unfold pY
      refine zq hz hx ?_
      refine fB (fun e2 => ?_) (fun e2 => ?_)
      · simp at e2
        unfold pJ
        refine stop _ (fun k k1 k2 k3 => ?_)
        have := hmin k k1 k2 k3
        rw [rkI, jm hz] at this
        rw [rkI, jm hx]; exact Int.le_trans e2 this
      · simp at e2
        refine zu hx hz ?_
        refine hX (n - j) _ (by omega) ⟨j, rfl, by omega, (xQ hx hz).trans hp, fun k hkn => ?_, by omega, ?_⟩
        · rw [← hk k hkn]; unfold yP; rw [List.getElem?_set_ne (by omega), List.getElem?_set_ne (by omega)]
        · exact hd.step hbp hjn ⟨hj0, hjp⟩ hmin (by rw [rkI, jm hz, jm hx]; exact e2) (fun k => Ae hx hz k)
    refine fB (fun e2 => ?_) (fun e2 => ?_)
    · simp at e2
      have h2 : 2 * p + 2 < n := by omega
      have hz : l2[2 * p + 2]? = some l2[2 * p + 2] := List.getElem?_eq_getElem (by omega)
      refine zq hz hy ?_
      unfold pU
      rw [ej2, ej1]
      refine fB (fun e3 => ?_) (fun e3 => ?_)
      · simp at e3
        refine go (2 * p + 2) _ hz (by omega) h2 (by omega) (fun k k1 k2 k3 => ?_)
        rcases (show k = 2 * p + 1 ∨ k = 2 * p + 2 by omega) with rfl | rfl
        · rw [rkI, jm hz, jm hy]; omega
        · exact Int.le_refl _
      · simp at e3
        refine go (2 * p + 1) _ hy (by omega) h1 (by omega) (fun k k1 k2 k3 => ?_)
        rcases (show k = 2 * p + 1 ∨ k = 2 * p + 2 by omega) with rfl | rfl
        · exact Int.le_refl _
        · rw [rkI, jm hz, jm hy]; omega
    · simp at e2
      unfold pU
      simp only [gY]
      rw [ej1]
      refine go (2 * p + 1) _ hy (by omega) h1 (by omega) (fun k k1 k2 k3 => ?_)
      obtain rfl : k = 2 * p + 1 := by omega
      exact Int.le_refl _
theorem JC {Q : List dW → Prop} {l : List dW} (hl : l.length ≤ 2305843009213693952) (h : ∀ l', l'.Perm l → xR l' → Q l') : rP l Q := by
  unfold rP qj
  dsimp only
  have e1 : w64 ((w64 ((l.length : Int).tdiv 2)) - 1) = ((l.length / 2 : Nat) : Int) - 1 := by
    rw [Int.tdiv_eq_ediv_of_nonneg (by omega), fO (n := (l.length : Int) / 2) (by omega) (by omega), fO] <;> omega
  rw [e1]
  refine oU (fun m (s : List dW × Int) => s.2 = (m : Int) - 1 ∧ s.1.Perm l ∧ m ≤ l.length / 2 ∧ HpF (rkI s.1) l.length m) (n := l.length / 2) ⟨rfl, .refl _, Nat.le_refl _, fun k h1 h2 h3 => by omega⟩ ?_
  rintro m ⟨l2, n2⟩ X ⟨hn, hp, hm, hh⟩ hX
  simp only at hn hp hh
  subst hn
  have hlen : l2.length = l.length := hp.length_eq
  show pq Q (l.length : Int) (fun l2 n2 => X (l2, n2)) l2 ((m : Int) - 1)
  unfold pq
  refine fB (fun e => ?_) (fun e => ?_)
  · simp at e
    obtain ⟨k, rfl⟩ : ∃ k, m = k + 1 := ⟨m - 1, by omega⟩
    rw [show (((k + 1 : Nat) : Int) - 1) = (k : Int) by omega]
    refine EH (b := k) (by omega) (by omega) (by omega) (Nat.le_refl _) (DnI.first hh) (fun c l' hp' hk' hh' => ?_)
    have e2 : w64 ((k : Int) - 1) = (k : Int) - 1 := fO (by omega) (by omega)
    rw [e2]
    exact hX k _ (by omega) ⟨rfl, hp'.trans hp, by omega, hh'⟩
  · simp at e
    obtain rfl : m = 0 := by omega
    exact h l2 hp (by unfold xR; rw [hlen]; exact hh)
theorem KJ {l : List dW} {x : dW} {k : Nat} (hk : k < l.length) : rkI (l ++ [x]) k = rkI l k := by
  unfold rkI wE; rw [List.getElem?_append_left hk]
theorem Oy {l : List dW} {k n : Nat} (hk : k < n) : rkI (l.take n) k = rkI l k := by
  unfold rkI wE; rw [List.getElem?_take, if_pos hk]
theorem JL {Q : List dW → Prop} {l : List dW} {x : dW} (hr : (l.length + 1) * 16 ≤ 140737488355328) (hh : xR l) (h : ∀ l', l'.Perm (x :: l) → xR l' → Q l') : wO l x Q := by
  unfold wO xu qj
  refine ⟨uJ (by simpa using hr) (by decide), ?_⟩
  dsimp only
  have e : w64 (((l ++ [x]).length : Int) - 1) = (l.length : Int) := by rw [List.length_append]; simp; exact fO (by omega) (by omega)
  rw [e]
  refine Nc (by simp) (by simp; omega) ?_ (fun l' hp hh' => h l' (hp.trans (List.perm_append_singleton x l)) hh')
  rw [List.length_append]
  exact UpI.last (hh.congr (Nat.le_refl _) (fun k hk => KJ hk))
theorem KX {Q : dW → List dW → Prop} {l : List dW} (hl : l.length * 16 ≤ 140737488355328) (h0 : 0 < l.length) (hh : xR l) (h : ∀ x l', l.Perm (x :: l') → (∀ y ∈ l', x.key ≤ y.key) → xR l' → Q x l') : xK l Q := by
  unfold xK qj
  dsimp only
  have e1 : w64 ((l.length : Int) - 1) = ((l.length - 1 : Nat) : Int) := by rw [fO] <;> omega
  rw [e1]
  have hx : l[0]? = some l[0] := List.getElem?_eq_getElem h0
  have hy : l[l.length - 1]? = some l[l.length - 1] := List.getElem?_eq_getElem (by omega)
  have hs : ∀ k, rkI (yP l 0 (l.length - 1) l[0] l[l.length - 1]) k = _ := fun k => Ae (r := dW.key) hx hy k
  have hsl : (yP l 0 (l.length - 1) l[0] l[l.length - 1]).length = l.length := MC
  have hsp := xQ hx hy
  have hlast : (yP l 0 (l.length - 1) l[0] l[l.length - 1])[l.length - 1]? = some l[0] := by
    unfold yP; rw [List.getElem?_set_self (by rw [List.length_set]; omega)]
  refine zu (i := 0) hx hy ?_
  refine EH (i := 0) (b := 0) (by omega) (by omega) (by omega) (Nat.le_refl _) ?_ (fun c l' hp' hk' hh' => ?_)
  · refine DnI.pop hh (by omega) (fun k hk hkn => ?_)
    rw [hs, if_neg (by omega), if_neg (by omega)]
  · unfold yw
    have hl' : l'.length = l.length := hp'.length_eq.trans hsl
    have e2 : w64 ((l'.length : Int) - 1) = ((l.length - 1 : Nat) : Int) := by rw [hl']; exact e1
    rw [e2]
    have hz : l'[l.length - 1]? = some l[0] := (hk' _ (Nat.le_refl _)).trans hlast
    refine gG hz ⟨⟨by omega, by omega⟩, ?_⟩
    rw [Int.toNat_natCast]
    have hsplit : l' = l'.take (l.length - 1) ++ [l[0]] := by
      have h3 := (List.take_append_drop (l.length - 1) l').symm
      have h4 : l'.drop (l.length - 1) = [l[0]] := by
        apply List.ext_getElem?
        intro k
        rw [List.getElem?_drop]
        cases k with
        | zero => simpa using hz
        | succ k => rw [List.getElem?_eq_none (by omega)]; simp
      rw [h4] at h3; exact h3
    have hperm : l.Perm (l[0] :: l'.take (l.length - 1)) := by
      refine (hsp.symm.trans hp'.symm).trans ?_
      conv => lhs; rw [hsplit]
      exact List.perm_append_singleton _ _
    have htl : (l'.take (l.length - 1)).length = l.length - 1 := by rw [List.length_take]; omega
    refine h _ _ hperm (fun y hy2 => ?_) ?_
    · have hm : y ∈ l := hperm.mem_iff.2 (List.mem_cons_of_mem _ hy2)
      obtain ⟨k, hk⟩ := List.getElem?_of_mem hm
      have := HpF.min hh k (dO hk)
      rw [rkI, jm hx, jm hk] at this; exact this
    · unfold xR; rw [htl]
      exact hh'.congr (Nat.le_refl _) (fun k hk => Oy hk)
end
end Go.Proofs.YtfjcgoiedlimdaaGreatDoor
