/- Chapter texts of ours, as far as the claim needs them. -/
import Derived.Test.YtbegofbmbcghdaaGreatDoorStackA2
import Derived.Test.YtbegofbmbcghdaaGreatDoorFind
namespace Go.Proofs.YtbegofbmbcghdaaGreatDoor
open Go Go.RowKit
set_option linter.unusedVariables false
set_option linter.unusedSectionVars false
set_option linter.unusedSimpArgs false
theorem jM {s : Str} (hs : Fits.fits s) {Q : Bool → Prop} (h : Q (isWord s)) : iF s Q := by
  unfold iF
  refine Pg hs (Q := Q) (fun X n hX => ?_) h
  unfold oQ gB
  refine Pz hX (fun hi => ?_) (fun hq => ?_)
  · obtain ⟨h0, x, hx, hc⟩ := hi
    refine ⟨h0, x, hx, ?_⟩
    unfold badByte at hc
    cases h1 : decide ((x.toNat : Int) < 65) <;> cases h2 : decide ((x.toNat : Int) > 90) <;> cases h3 : decide ((x.toNat : Int) < 97) <;> cases h4 : decide ((x.toNat : Int) > 122) <;> cases h5 : decide ((x.toNat : Int) < 48) <;> cases h6 : decide ((x.toNat : Int) > 57) <;>
      simp only [h1, h2, h3, h4, h5, h6, Bool.or_true, Bool.true_or, Bool.or_false, Bool.false_and, Bool.true_and, Bool.and_true, Bool.and_false, rD, jI] at hc ⊢ <;> exact hc
  · refine eU (fun e => ?_) (fun e => ?_)
    · have e1 : 1 ≤ s.length := by simp at e; omega
      have : decide ((s.length : Int) ≤ 40) = decide (s.length ≤ 40) := by congr 1; exact propext ⟨fun h => by omega, fun h => by omega⟩
      rw [this]; simpa [e1] using hq
    · have e1 : ¬ 1 ≤ s.length := by simp at e; omega
      simpa [e1] using hq
def zo (m : List eY) (k : Nat) (x : eY) : Int :=
  if isWord x.Name = false then 5 else if within x.Kind 1 3 = false then 4 else if within x.Thick 1 2000 = false ∨ within x.Grow 0 1000 = false then 1 else if under eY.Name m k x = true then 8 else 0
def xE (m : List eY) : Int := if (m.length : Int) > 50 then 2 else iU (zo m) m 0
theorem O0 {m : List eY} {Q : Int → Prop} {k : Nat} {x : eY} {next : Prop} (hl : m.length ≤ 50) (hx : m[k]? = some x) (h1 : zo m k x ≠ 0 → Q (zo m k x)) (h0 : zo m k x = 0 → next) :
    cnd (!(isWord x.Name)) (Q 5) (cnd (!(within x.Kind 1 3)) (Q 4) (cnd (!(within x.Thick 1 2000)) (iP m Q k x next true) (iP m Q k x next (!(within x.Grow 0 1000))))) := by
  have hk := TL hx
  have key : zo m k x = 0 ∨ zo m k x = 8 → (isWord x.Name = true ∧ within x.Kind 1 3 = true ∧ within x.Thick 1 2000 = true ∧ within x.Grow 0 1000 = true) →
      cnd (decide ((k : Int) > 0)) (idx m (w64 ((k : Int) - 1)) fun x1 => iR Q next (gI x.Name x1.Name || x.Name == x1.Name)) (iR Q next false) := by
    intro hb ⟨a, b, c, d⟩
    refine nX (key := eY.Name) (by omega) (by omega) ?_
    unfold iR
    unfold zo at h1 h0
    simp only [a, b, c, d, Bool.true_eq_false, if_false, or_self] at h1 h0
    cases hu : under eY.Name m k x
    · simp only [hu, Bool.false_eq_true, if_false, jI] at h0 ⊢; exact h0 trivial
    · simp only [hu, if_true, rD] at h1 ⊢; exact h1 (by decide)
  unfold iP
  unfold zo at h1 h0 key
  cases a : isWord x.Name
  · simp only [a, if_true] at h1; simpa using h1 (by decide)
  cases b : within x.Kind 1 3
  · simp only [a, b, if_true, Bool.true_eq_false, if_false] at h1; simpa using h1 (by decide)
  cases c : within x.Thick 1 2000
  · simp only [a, b, c, if_true, Bool.true_eq_false, if_false, true_or] at h1; simpa using h1 (by decide)
  cases d : within x.Grow 0 1000
  · simp only [a, b, c, d, if_true, Bool.true_eq_false, if_false, or_true] at h1; simpa using h1 (by decide)
  simp only [a, b, c, d, Bool.true_eq_false, if_false, or_self, Bool.not_true, jI] at key ⊢
  exact key (by split <;> simp) ⟨trivial, trivial, trivial, trivial⟩
theorem Au {m : List eY} (hm : Fits.fits m) {Q : Int → Prop} (h : Q (xE m)) : lg m Q := by
  unfold lg
  unfold xE at h
  refine eU (fun e => ?_) (fun e => ?_)
  · rw [if_pos (by simpa using e)] at h; exact h
  · rw [if_neg (by simpa using e)] at h
    refine wo (zo m) (fun i x next hx h1 h0 => ?_) (Q := Q) (by split <;> rename_i e; rw [e] at h; exact h; exact h)
    exact jM (hm x (List.mem_of_getElem? hx)).1 (O0 (by simp at e; omega) hx h1 h0)
structure Aq (m : List eY) : Prop where
  len : m.length ≤ 50
  rise : wK eY.Name m
  each : ∀ x ∈ m, isWord x.Name = true ∧ within x.Kind 1 3 = true ∧ within x.Thick 1 2000 = true ∧ within x.Grow 0 1000 = true
theorem Oz {m : List eY} (h : xE m = 0) : Aq m := by
  unfold xE at h
  split at h
  · omega
  have hb := xY h
  refine ⟨by omega, Fa (fun i x hx => ?_), fun x hx => ?_⟩
  · have := hb i x hx
    unfold zo at this
    cases hu : under eY.Name m i x
    · rfl
    · simp only [hu, if_true] at this; repeat (first | omega | split at this)
  · obtain ⟨i, hi⟩ := List.getElem?_of_mem hx
    have := hb i x hi
    unfold zo at this
    cases a : isWord x.Name <;> cases b : within x.Kind 1 3 <;> cases c : within x.Thick 1 2000 <;> cases d : within x.Grow 0 1000 <;> simp [a, b, c, d] at this ⊢
def SV : eY := ⟨[], 0, 0, 0⟩
def yV (m : List eY) (name : Str) : eY := (m.find? (fun x => x.Name == name)).getD SV
def Hf (m : List eY) (name : Str) : Bool := (m.find? (fun x => x.Name == name)).isSome
theorem yU {m : List eY} (hm : Aq m) {name : Str} {Q : eY → Bool → Prop} (h : Q (yV m name) (Hf m name)) : mW m name Q := by
  unfold mW yI
  refine Bv (key := eY.Name) hm.rise (by have := hm.len; omega) (name := name) (Q := fun y1 y2 => cnd (!y2) (Q (⟨[], 0, 0, 0⟩ : eY) false) (idx m y1 fun x1 => Q x1 true)) (fun X lo hi hX => hX) (fun i x hx hn => ?_) (fun hne i hi => ?_)
  · simp only [Bool.not_true, jI]
    refine gW hx ?_
    have := JX (key := eY.Name) hm.rise hx hn
    simpa [yV, Hf, this] using h
  · simp only [Bool.not_false, rD]
    have : m.find? (fun x => x.Name == name) = none := List.find?_eq_none.2 (fun x hx => by simpa using hne x hx)
    unfold yV Hf at h
    rw [this] at h
    exact h
theorem MP {m : List eY} (hm : Aq m) (name : Str) : Hf m name = !((yV m name).Kind == 0) ∧ 0 ≤ (yV m name).Kind ∧ (yV m name).Kind ≤ 3 ∧ 0 ≤ (yV m name).Thick ∧ (yV m name).Thick ≤ 2000 ∧ 0 ≤ (yV m name).Grow ∧ (yV m name).Grow ≤ 1000 := by
  unfold Hf yV
  cases hf : m.find? (fun x => x.Name == name) with
  | none => decide
  | some x =>
    obtain ⟨_, h1, h2, h3⟩ := hm.each x (List.mem_of_find?_eq_some hf)
    unfold within at h1 h2 h3
    simp at h1 h2 h3
    simp only [Option.isSome_some, Option.getD_some]
    refine ⟨?_, by omega, by omega, by omega, by omega, by omega, by omega⟩
    have : ¬ x.Kind = 0 := by omega
    simp [this]
def jc (m : List eY) (l : Layer) : Int := (yV m l.eY).Kind
theorem wF {m : List eY} (hm : Aq m) {l : Layer} {Q : Int → Prop} (h : Q (jc m l)) : kZ m l Q := yU hm h
def kR (m : List eY) (s : List Layer) : Nat → List Int
  | 0 => []
  | k + 1 => kR m s k ++ (if jc m (s.getD k default) = 1 then [(k : Int)] else [])
theorem CG (m : List eY) (s : List Layer) : ∀ k, (kR m s k).length ≤ k
  | 0 => by simp [kR]
  | k + 1 => by have := CG m s k; simp only [kR, List.length_append]; split <;> simp <;> omega
def sW (m : List eY) (s : List Layer) : List Int := kR m s s.length
theorem yD {m : List eY} (hm : Aq m) {s : List Layer} (hs : s.length ≤ 1000) {Q : List Int → Prop} (h : Q (sW m s)) : lW m s Q := by
  unfold lW
  refine iQ (fun k l => l = kR m s k) rfl (fun k x l hx hI next hn => ?_) (fun l hI => by subst hI; exact h)
  subst hI
  have hk := TL hx
  have := CG m s k
  refine wF hm (eU (fun e => ⟨lX (by simp only [List.length_append, List.length_singleton]; omega) (by omega), hn _ ?_⟩) (fun e => hn _ ?_))
  · rw [kR, tZ hx, if_pos (by simpa using e)]
  · rw [kR, tZ hx, if_neg (by simpa using e)]; simp
def jB (m : List eY) (s : List Layer) (k : Nat) : Int := if k = 0 then 0 else jc m (s.getD (k - 1) default)
def qJ (m : List eY) (s : List Layer) (k : Nat) (x : Layer) : Int :=
  if jc m x = 0 then 9 else if (jc m x = 1 ∧ isWord x.Name = false) ∨ (jc m x ≠ 1 ∧ x.Name ≠ []) then 5
  else if jc m x = 1 ∧ (s.take k).any (fun y => y.Name == x.Name) = true then 7
  else if (jc m x = 1 ∧ jB m s k = 1) ∨ (jc m x = 2 ∧ jB m s k ≠ 0 ∧ jB m s k ≠ 1) ∨ (jB m s k = 2 ∧ jc m x ≠ 1) then 8 else 0
def lG (m : List eY) (s : List Layer) : Int :=
  if xE m ≠ 0 then xE m else if (s.length : Int) > 60 then 2 else if iU (qJ m s) s 0 ≠ 0 then iU (qJ m s) s 0
  else if (sW m s).length < 2 ∨ jc m (s.getD 0 default) ≠ 1 ∨ jc m (s.getD (s.length - 1) default) ≠ 1 then 3 else 0
def vP (s : List Layer) : Nat → List (Str × Bool)
  | 0 => []
  | k + 1 => zB (vP s k) (s.getD k default).Name true
theorem F8 (s : List Layer) (n : Str) : ∀ k, k ≤ s.length → (xG (vP s k) n).getD false = (s.take k).any (fun y => y.Name == n)
  | 0, _ => by simp [vP, xG]
  | k + 1, h => by
    have ih := F8 s n k (by omega)
    have hx : s[k]? = some (s.getD k default) := by rw [List.getD_eq_getElem?_getD, List.getElem?_eq_getElem (by omega)]; rfl
    rw [vP, Nc, List.take_add_one, hx, List.any_append, ← ih]
    by_cases hp : (s.getD k default).Name = n
    · simp only [hp, if_true, Option.toList, List.any_cons, List.any_nil, beq_self_eq_true, Bool.true_or, Bool.or_true, Option.getD_some]
    · rw [if_neg hp]
      have : ((s.getD k default).Name == n) = false := by simpa using hp
      simp only [Option.toList, List.any_cons, List.any_nil, this, Bool.or_false]
theorem H7 {m : List eY} (hm : Aq m) {s : List Layer} (hf : Fits.fits s) {Q : Int → Prop} {k : Nat} {x : Layer} {next : List (Str × Bool) → Int → Prop} (hx : s[k]? = some x) (h1 : qJ m s k x ≠ 0 → Q (qJ m s k x)) (h0 : qJ m s k x = 0 → next (vP s (k + 1)) (jB m s (k + 1))) :
    jU m Q k x (vP s k) (jB m s k) next := by
  have hk := TL hx
  have e1 : vP s (k + 1) = zB (vP s k) x.Name true := by rw [vP, tZ hx]
  have e2 : jB m s (k + 1) = (yV m x.eY).Kind := by unfold jB; rw [if_neg (by omega), Nat.add_sub_cancel, tZ hx]; rfl
  rw [e1, e2] at h0
  unfold jU
  refine yU hm ?_
  obtain ⟨hh, hk0, hk3, _⟩ := MP hm x.eY
  rw [hh]
  unfold qJ at h1 h0
  have ek : jc m x = (yV m x.eY).Kind := rfl
  rw [ek] at h1 h0
  generalize (yV m x.eY) = y at *
  generalize jB m s k = bf at *
  have tail : (¬ y.Kind = 0) → ¬ ((y.Kind = 1 ∧ isWord x.Name = false) ∨ (y.Kind ≠ 1 ∧ x.Name ≠ [])) → gZ Q x (vP s k) bf next y false := by
    intro c1 c2
    rw [if_neg c1, if_neg c2] at h1 h0
    unfold gZ mJ l9 jX jv
    rw [F8 s x.Name k (by omega)]
    generalize (s.take k).any (fun y => y.Name == x.Name) = an at *
    simp only [zG, beq_iff_eq, bne_iff_ne, ne_eq, Bool.false_eq_true, if_false, Bool.not_eq_true', beq_eq_false_iff_ne] at *
    grind
  refine eU (fun e => ?_) (fun e => ?_)
  · have : y.Kind = 0 := by simpa using e
    rw [if_pos this] at h1; exact h1 (by decide)
  · have c1 : ¬ y.Kind = 0 := by simpa using e
    rw [if_neg c1] at h1 h0
    have bad : ((y.Kind = 1 ∧ isWord x.Name = false) ∨ (y.Kind ≠ 1 ∧ x.Name ≠ [])) → gZ Q x (vP s k) bf next y true := by
      intro c2
      rw [if_pos c2] at h1
      unfold gZ
      rw [rD]; exact h1 (by decide)
    refine eU (fun e3 => jM (hf x (List.mem_of_getElem? hx)).1 (eU (fun e4 => bad (.inl ⟨by simpa using e3, by simpa using e4⟩)) (fun e4 => ?_))) (fun e3 => ?_)
    · have c3 : y.Kind = 1 := by simpa using e3
      simp only [c3, beq_self_eq_true, Bool.not_true, jI]
      exact tail c1 (by simp [c3]; simpa using e4)
    · have c3 : ¬ y.Kind = 1 := by simpa using e3
      rw [e3]
      simp only [Bool.not_false, rD]
      cases hn : (x.Name == [])
      · exact bad (.inr ⟨c3, by simpa using hn⟩)
      · exact tail c1 (by simp [c3]; simpa using hn)
theorem zn {m : List eY} {s : List Layer} (hmf : Fits.fits m) (hf : Fits.fits s) {Q : Int → Prop} (h : Q (lG m s)) : mQ m s Q := by
  unfold mQ
  unfold lG at h
  refine Au hmf (eU (fun e => ?_) (fun e => ?_))
  · rw [if_pos (by simpa using e)] at h; exact h
  · have e' : xE m = 0 := by simpa using e
    rw [if_neg (by simpa using e)] at h
    have hm := Oz e'
    refine eU (fun e => ?_) (fun e => ?_)
    · rw [if_pos (by simpa using e)] at h; exact h
    · have hl : s.length ≤ 60 := by simp at e; omega
      rw [if_neg (by simpa using e)] at h
      refine AA (qJ m s) (fun k => (vP s k, jB m s k)) rfl (A := Q) (fun i x next hx hb hA => ?_) (fun i x next hx hb _ hn => ?_) (fun hb => ?_) (fun hb => ?_)
      · exact H7 hm hf hx (fun _ => hA) (fun e => absurd e hb)
      · exact H7 hm hf hx (fun e => absurd hb e) (fun _ => hn)
      · rw [if_pos hb] at h; exact h
      · rw [if_neg (by simpa using hb)] at h
        refine yD hm (by omega) ?_
        unfold iK
        refine eU (fun e => ?_) (fun e => ?_)
        · rw [if_pos (.inl (by simp at e; omega))] at h; simpa using h
        · have hc : ¬ (sW m s).length < 2 := by simp at e; omega
          have hc2 := CG m s s.length
          have hpos : 2 ≤ s.length := by unfold sW at hc; omega
          refine gW (i := 0) (x := s.getD 0 default) (by rw [List.getD_eq_getElem?_getD, List.getElem?_eq_getElem (by omega)]; rfl) (wF hm ?_)
          refine eU (fun e2 => ?_) (fun e2 => ?_)
          · rw [if_pos (.inr (.inl (by simpa using e2)))] at h; simpa using h
          · have hw : w64 ((s.length : Int) - 1) = ((s.length - 1 : Nat) : Int) := by rw [gV] <;> omega
            rw [hw]
            refine gW (x := s.getD (s.length - 1) default) (by rw [List.getD_eq_getElem?_getD, List.getElem?_eq_getElem (by omega)]; rfl) (wF hm ?_)
            refine eU (fun e3 => ?_) (fun e3 => ?_)
            · rw [if_pos (.inr (.inr (by simpa using e3)))] at h; exact h
            · rw [if_neg (by simp at e2 e3; simp [hc, e2, e3])] at h; exact h
theorem wu {m : List eY} {s : List Layer} (h : lG m s = 0) : Aq m ∧ s.length ≤ 60 ∧ 2 ≤ (sW m s).length ∧ jc m (s.getD 0 default) = 1 ∧ jc m (s.getD (s.length - 1) default) = 1 ∧ ∀ i x, s[i]? = some x → qJ m s i x = 0 := by
  unfold lG at h
  split at h; · omega
  rename_i h1
  split at h; · omega
  rename_i h2
  split at h; · omega
  rename_i h3
  split at h; · omega
  rename_i h4
  simp only [not_or, Nat.not_lt, Decidable.not_not] at h4 h3 h1
  exact ⟨Oz h1, by omega, h4.1, h4.2.1, h4.2.2, xY h3⟩
def TN (m : List eY) (s : List Layer) : Int := s.foldl (fun n l => n + (yV m l.eY).Thick) 0
theorem Uj (m : List eY) : ∀ (s : List Layer) (n : Int), s.foldl (fun n l => n + (yV m l.eY).Thick) n = n + TN m s
  | [], n => by simp [TN]
  | x :: r, n => by
    unfold TN
    simp only [List.foldl_cons, Int.zero_add]
    rw [Uj m r, Uj m r]
    omega
theorem Um (m : List eY) (x : Layer) (r : List Layer) : TN m (x :: r) = (yV m x.eY).Thick + TN m r := by
  rw [TN, List.foldl_cons, Uj]; omega
theorem Ui (m : List eY) (a b : List Layer) : TN m (a ++ b) = TN m a + TN m b := by
  unfold TN; rw [List.foldl_append, Uj]; rfl
theorem TP {m : List eY} (hm : Aq m) : ∀ s : List Layer, 0 ≤ TN m s ∧ TN m s ≤ 2000 * s.length
  | [] => by simp [TN]
  | x :: r => by
    have := TP hm r
    obtain ⟨_, _, _, h1, h2, _⟩ := MP hm x.eY
    rw [Um]
    simp only [List.length_cons]
    omega
theorem UQ {m : List eY} (hm : Aq m) {s : List Layer} (hl : s.length ≤ 1000) {body : Nat → Layer → Int → (Int → Prop) → Prop} {Q : Int → Prop} (hb : ∀ k x n next, next (w64 (n + (yV m x.eY).Thick)) → body k x n next) (h : Q (TN m s)) : forIn' body Q s 0 0 := by
  refine iQ (fun k n => n = TN m (s.take k)) (by simp [TN]) (fun k x n hx hI next hn => hb _ _ _ _ (hn _ ?_)) (fun n hI => by rw [hI, List.take_length]; exact h)
  rw [hI]
  have h1 := TP hm (s.take (k + 1))
  have h2 : TN m (s.take (k + 1)) = TN m (s.take k) + (yV m x.eY).Thick := by
    rw [List.take_add_one, hx, Ui]; simp [Um, TN]
  have h3 : (s.take (k + 1)).length ≤ 1000 := by rw [List.length_take]; omega
  rw [← h2, gV (by omega) (by omega)]
theorem Un {m : List eY} (hm : Aq m) {s : List Layer} (hl : s.length ≤ 1000) {Q : Int → Prop} (h : Q (TN m s)) : Ue m s Q :=
  UQ hm hl (fun k x n next h => yU hm h) h
theorem Uu {m : List eY} {s : List Layer} (hmf : Fits.fits m) (hf : Fits.fits s) {Q : Int → Int → Prop} (h : if lG m s = 0 then Q (TN m s) 0 else Q 0 (lG m s)) : TU m s Q := by
  unfold TU
  refine zn hmf hf (eU (fun e => ?_) (fun e => ?_))
  · rw [if_neg (by simpa using e)] at h; exact h
  · have e' : lG m s = 0 := by simpa using e
    rw [if_pos e'] at h
    obtain ⟨hm, hl, _⟩ := wu e'
    exact Un hm (by omega) h
end Go.Proofs.YtbegofbmbcghdaaGreatDoor
