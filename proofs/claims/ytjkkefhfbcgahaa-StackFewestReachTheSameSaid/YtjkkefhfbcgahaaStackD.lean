/- Chapter 4: how deep coppers lie, and how far apart. -/
import Derived.Test.YtjkkefhfbcgahaaStackC
import Derived.Test.YtjkkefhfbcgahaaStackB
namespace Go.Proofs.Ytjkkefhfbcgahaa
open Go Go.RowKit
set_option linter.unusedVariables false

/-- the place of a copper -/
def placeOf (s : List Layer) (name : Str) : Option Nat := s.findIdx? (fun l => !(name == []) && l.Name == name)
def placeNum (s : List Layer) (name : Str) : Int := match placeOf s name with | some i => (i : Int) | none => -1
theorem S_stack_find {s : List Layer} {name : Str} {Q : Int → Prop} (h : Q (placeNum s name)) : M_stack_find s name Q := by
  unfold M_stack_find M_index_layer
  refine forIn_find (fun l => !(name == []) && l.Name == name) (fun k x next hx => ?_) s 0 (A := fun i => Q (i : Int)) ?_
  · unfold M_index_layer_L1 M_find1
    cases hn : (name == []) <;> simp only [hn, Bool.not_true, Bool.not_false, Bool.true_and, Bool.false_and, Bool.false_eq_true, if_false, cnd_true, cnd_false] at hx ⊢
    · exact cnd_iff.2 hx
    · exact hx
  · unfold placeNum placeOf at h
    cases hf : s.findIdx? (fun l => !(name == []) && l.Name == name) <;> simp only [hf] at h ⊢
    · exact h
    · simpa using h
theorem findIdx_congr {α : Type} {p q : α → Bool} : ∀ {l : List α}, (∀ x ∈ l, p x = q x) → l.findIdx? p = l.findIdx? q
  | [], _ => rfl
  | x :: r, h => by
    rw [List.findIdx?_cons, List.findIdx?_cons, h x (List.mem_cons_self ..), findIdx_congr (fun y hy => h y (List.mem_cons_of_mem _ hy))]
theorem name_kind {m : List Material} {s : List Layer} {k : Nat} {x : Layer} (h : layerBad m s k x = 0) : (kindAt m x = 1 → isWord x.Name = true ∧ x.Name ≠ []) ∧ (kindAt m x ≠ 1 → x.Name = []) := by
  unfold layerBad at h
  split at h; · omega
  split at h; · omega
  rename_i hn
  simp only [not_or, not_and, Bool.not_eq_false, ne_eq, Decidable.not_not] at hn
  refine ⟨fun e => ⟨hn.1 e, fun e2 => ?_⟩, hn.2⟩
  have := hn.1 e
  rw [e2] at this
  cases this
theorem S_ref4_placeOf {m : List Material} {s : List Layer} (hb : ∀ i x, s[i]? = some x → layerBad m s i x = 0) {name : Str} {Q : Int → Prop} (h : Q (placeNum s name)) : M_ref4_placeOf m s name Q := by
  unfold M_ref4_placeOf
  refine forIn_find (fun l => l.Name == name && kindAt m l == 1) (fun k x next hx => ?_) s 0 (A := fun i => Q (i : Int)) ?_
  · unfold M_ref4_placeOf_L1 M_ref4_placeOf_k2
    cases hn : (x.Name == name) <;> simp only [hn, Bool.true_and, Bool.false_and, Bool.false_eq_true, if_false, cnd_true, cnd_false] at hx ⊢
    · exact hx
    · exact S_ref4_isCopper (cnd_iff.2 hx)
  · have e : s.findIdx? (fun l => l.Name == name && kindAt m l == 1) = placeOf s name := by
      refine findIdx_congr (fun x hx => ?_)
      obtain ⟨i, hi⟩ := List.getElem?_of_mem hx
      obtain ⟨h1, h2⟩ := name_kind (hb i x hi)
      by_cases hk : kindAt m x = 1
      · have := (h1 hk).2
        by_cases hn : x.Name = name
        · subst hn; simp [hk, this]
        · have e : (x.Name == name) = false := by simpa using hn
          rw [e]; simp
      · have := h2 hk
        by_cases hn : x.Name = name
        · rw [this] at hn; subst hn; simp [hk]
        · have e : (x.Name == name) = false := by simpa using hn
          rw [e]; simp
    unfold placeNum at h
    rw [e]
    cases hf : placeOf s name <;> simp only [hf] at h ⊢
    · exact h
    · simpa using h
theorem place_lt {s : List Layer} {name : Str} : placeNum s name < s.length ∧ -1 ≤ placeNum s name := by
  unfold placeNum
  cases hf : placeOf s name with
  | none => simp; omega
  | some i =>
    have := (List.findIdx?_eq_some_iff_getElem.1 hf).1
    simp; omega
def depthOf (m : List Material) (s : List Layer) (name : Str) (Q : Int → Int → Prop) : Prop :=
  if stackFault m s = 0 then (if placeNum s name < 0 then Q 0 9 else Q (thickOf m (seg s 0 (placeNum s name))) 0) else Q 0 (stackFault m s)
def apartOf (m : List Material) (s : List Layer) (a b : Str) (Q : Int → Int → Prop) : Prop :=
  if stackFault m s = 0 then (if placeNum s a < 0 ∨ placeNum s b < 0 then Q 0 9 else if placeNum s a = placeNum s b then Q 0 0 else Q (thickOf m (seg s (min (placeNum s a) (placeNum s b) + 1) (max (placeNum s a) (placeNum s b)))) 0) else Q 0 (stackFault m s)
theorem seg_len_le {α : Type} (s : List α) (a b : Int) : (seg s a b).length ≤ s.length := by
  simp only [seg, List.length_drop, List.length_take]; omega
theorem S_stack_Depth {m : List Material} {s : List Layer} (hmf : Fits.fits m) (hf : Fits.fits s) {name : Str} {Q : Int → Int → Prop} (h : depthOf m s name Q) : M_stack_Depth m s name Q := by
  unfold M_stack_Depth
  unfold depthOf at h
  refine S_stack_CheckStack hmf hf (cnd_of (fun e => ?_) (fun e => ?_))
  · rw [if_neg (by simpa using e)] at h; exact h
  · have e' : stackFault m s = 0 := by simpa using e
    rw [if_pos e'] at h
    obtain ⟨hm, hl, _⟩ := stack_ok e'
    refine S_stack_find (cnd_of (fun e2 => ?_) (fun e2 => ?_))
    · rw [if_pos (by simpa using e2)] at h; exact h
    · rw [if_neg (by simpa using e2)] at h
      have := place_lt (s := s) (name := name)
      exact ⟨by simp at e2; omega, S_stack_thick hm (by have := seg_len_le s 0 (placeNum s name); omega) h⟩
theorem S_ref4_Depth {m : List Material} {s : List Layer} (hmf : Fits.fits m) (hf : Fits.fits s) {name : Str} {Q : Int → Int → Prop} (h : depthOf m s name Q) : M_ref4_Depth m s name Q := by
  unfold M_ref4_Depth
  unfold depthOf at h
  refine S_ref4_CheckStack hmf hf (cnd_of (fun e => ?_) (fun e => ?_))
  · rw [if_neg (by simpa using e)] at h; exact h
  · have e' : stackFault m s = 0 := by simpa using e
    rw [if_pos e'] at h
    obtain ⟨hm, hl, _, _, _, hb⟩ := stack_ok e'
    refine S_ref4_placeOf hb (cnd_of (fun e2 => ?_) (fun e2 => ?_))
    · rw [if_pos (by simpa using e2)] at h; exact h
    · rw [if_neg (by simpa using e2)] at h
      have := place_lt (s := s) (name := name)
      exact ⟨by simp at e2; omega, S_ref4_thickness hm (by have := seg_len_le s 0 (placeNum s name); omega) h⟩
theorem S_stack_Apart {m : List Material} {s : List Layer} (hmf : Fits.fits m) (hf : Fits.fits s) {a b : Str} {Q : Int → Int → Prop} (h : apartOf m s a b Q) : M_stack_Apart m s a b Q := by
  unfold M_stack_Apart
  unfold apartOf at h
  refine S_stack_CheckStack hmf hf (cnd_of (fun e => ?_) (fun e => ?_))
  · rw [if_neg (by simpa using e)] at h; exact h
  · have e' : stackFault m s = 0 := by simpa using e
    rw [if_pos e'] at h
    obtain ⟨hm, hl, _⟩ := stack_ok e'
    have ha := place_lt (s := s) (name := a)
    have hb := place_lt (s := s) (name := b)
    refine S_stack_find (S_stack_find ?_)
    unfold M_stack_Apart_k1
    generalize placeNum s a = i at *
    generalize placeNum s b = k at *
    refine cnd_of (fun e2 => ?_) (fun e2 => cnd_of (fun e3 => ?_) (fun e3 => cnd_of (fun e4 => ?_) (fun e4 => ?_)))
    · rw [if_pos (.inl (by simpa using e2))] at h; simpa using h
    · rw [if_pos (.inr (by simpa using e3))] at h; exact h
    · rw [if_neg (by simp at e2 e3; omega), if_pos (by simpa using e4)] at h; exact h
    · simp at e2 e3 e4
      rw [if_neg (by omega), if_neg e4] at h
      have hw : w64 (min i k + 1) = min i k + 1 := w64_id (by omega) (by omega)
      rw [hw]
      exact ⟨by omega, S_stack_thick hm (by have := seg_len_le s (min i k + 1) (max i k); omega) h⟩
theorem S_ref4_Apart {m : List Material} {s : List Layer} (hmf : Fits.fits m) (hf : Fits.fits s) {a b : Str} {Q : Int → Int → Prop} (h : apartOf m s a b Q) : M_ref4_Apart m s a b Q := by
  unfold M_ref4_Apart
  unfold apartOf at h
  refine S_ref4_CheckStack hmf hf (cnd_of (fun e => ?_) (fun e => ?_))
  · rw [if_neg (by simpa using e)] at h; exact h
  · have e' : stackFault m s = 0 := by simpa using e
    rw [if_pos e'] at h
    obtain ⟨hm, hl, _, _, _, hbad⟩ := stack_ok e'
    have ha := place_lt (s := s) (name := a)
    have hb := place_lt (s := s) (name := b)
    refine S_ref4_placeOf hbad (S_ref4_placeOf hbad ?_)
    unfold M_ref4_Apart_k1
    generalize placeNum s a = i at *
    generalize placeNum s b = k at *
    refine cnd_of (fun e2 => ?_) (fun e2 => cnd_of (fun e3 => ?_) (fun e3 => cnd_of (fun e4 => ?_) (fun e4 => ?_)))
    · rw [if_pos (.inl (by simpa using e2))] at h; simpa using h
    · rw [if_pos (.inr (by simpa using e3))] at h; exact h
    · rw [if_neg (by simp at e2 e3; omega), if_pos (by simpa using e4)] at h; exact h
    · simp at e2 e3 e4
      rw [if_neg (by omega), if_neg e4] at h
      have hw : w64 (min i k + 1) = min i k + 1 := w64_id (by omega) (by omega)
      rw [hw]
      exact ⟨by omega, S_ref4_thickness hm (by have := seg_len_le s (min i k + 1) (max i k); omega) h⟩
theorem depth_val (m : List Material) (s : List Layer) (a : Str) : ∃ n f, ∀ Q, depthOf m s a Q ↔ Q n f := by
  unfold depthOf
  repeat' split
  all_goals exact ⟨_, _, fun Q => Iff.rfl⟩
theorem apart_val (m : List Material) (s : List Layer) (a b : Str) : ∃ n f, ∀ Q, apartOf m s a b Q ↔ Q n f := by
  unfold apartOf
  repeat' split
  all_goals exact ⟨_, _, fun Q => Iff.rfl⟩
theorem law_StackDepths_true (m : List Material) (s : List Layer) (a b : Str) (hmf : Fits.fits m) (hf : Fits.fits s) : M_law_StackDepths m s a b (· = true) := by
  unfold M_law_StackDepths M_law_StackDepths_k1
  obtain ⟨n, f, hd⟩ := depth_val m s a
  obtain ⟨n2, f2, ha⟩ := apart_val m s a b
  refine S_stack_Depth hmf hf ((hd _).2 (S_ref4_Depth hmf hf ((hd _).2 ?_)))
  simp only [bne_self_eq_false, cnd_false]
  refine S_stack_Apart hmf hf ((ha _).2 (S_ref4_Apart hmf hf ((ha _).2 ?_)))
  simp only [beq_self_eq_true, cnd_true]
  exact S_awake rfl
/-! ### depths add up -/
def upper (s : List Layer) (a b : Str) : Bool := match s.find? (fun l => l.Name == a || l.Name == b) with | some l => l.Name == a | none => false
theorem S_ref4_IsUpper {s : List Layer} {a b : Str} {Q : Bool → Prop} (h : Q (upper s a b)) : M_ref4_IsUpper s a b Q := by
  unfold M_ref4_IsUpper
  have key : ∀ (l : List Layer) (k : Nat), Q (upper l a b) → forIn' (fun k x (s : Unit) next => M_ref4_IsUpper_L1 a b Q k x (next ())) (fun (s : Unit) => Q false) l k () := by
    intro l
    induction l with
    | nil => intro k h; exact h
    | cons x r ih =>
      intro k h
      show M_ref4_IsUpper_L1 a b Q k x _
      unfold M_ref4_IsUpper_L1
      unfold upper at h
      rw [List.find?_cons] at h
      cases e1 : (x.Name == a) <;> cases e2 : (x.Name == b) <;> simp only [e1, e2, Bool.or_true, Bool.true_or, Bool.or_self, cnd_true, cnd_false] at h ⊢ <;> first | exact h | exact ih (k + 1) h
  exact key s 0 h
theorem place_some {s : List Layer} {name : Str} {i : Nat} (h : placeNum s name = (i : Int)) : name ≠ [] ∧ (∃ x, s[i]? = some x ∧ x.Name = name) ∧ ∀ j x, j < i → s[j]? = some x → x.Name ≠ name := by
  unfold placeNum at h
  cases hf : placeOf s name with
  | none => rw [hf] at h; simp at h
  | some j =>
    rw [hf] at h
    have : j = i := by have h' : (j : Int) = (i : Int) := h
                       omega
    subst this
    obtain ⟨h1, h2, h3⟩ := List.findIdx?_eq_some_iff_getElem.1 hf
    simp only [Bool.and_eq_true, Bool.not_eq_true', beq_eq_false_iff_ne, ne_eq, beq_iff_eq] at h2
    refine ⟨h2.1, ⟨_, List.getElem?_eq_getElem h1, h2.2⟩, fun k x hk hx he => ?_⟩
    have := h3 k hk
    rw [(List.getElem?_eq_some_iff.1 hx).2] at this
    simp [h2.1, he] at this
theorem upper_first {s : List Layer} {a b : Str} {i k : Nat} (ha : placeNum s a = (i : Int)) (hb : placeNum s b = (k : Int)) (hik : i < k) : upper s a b = true ∧ (a ≠ b → upper s b a = false) := by
  obtain ⟨_, ⟨x, hx, hxn⟩, h1⟩ := place_some ha
  obtain ⟨_, _, h2⟩ := place_some hb
  have key : ∀ p : Layer → Bool, (∀ l, p l = (l.Name == a || l.Name == b) ∨ p l = (l.Name == b || l.Name == a)) → s.find? p = some x := by
    intro p hp
    have hpe : ∀ l, p l = (l.Name == a || l.Name == b) := fun l => by rcases hp l with h | h; exact h; rw [h, Bool.or_comm]
    rw [List.find?_eq_some_iff_getElem]
    refine ⟨by rw [hpe, hxn]; simp, i, lt_of_get hx, (List.getElem?_eq_some_iff.1 hx).2, fun j hj => ?_⟩
    have hjl : j < s.length := by have := lt_of_get hx; omega
    have e1 := h1 j s[j] hj (List.getElem?_eq_getElem hjl)
    have e2 := h2 j s[j] (by omega) (List.getElem?_eq_getElem hjl)
    rw [hpe]
    have e1' : (s[j].Name == a) = false := by simpa using e1
    have e2' : (s[j].Name == b) = false := by simpa using e2
    rw [e1', e2']; rfl
  unfold upper
  rw [key _ (fun l => .inl rfl), key _ (fun l => .inr rfl)]
  refine ⟨by simp [hxn], fun hne => ?_⟩
  show (x.Name == b) = false
  rw [hxn]; simpa using hne
theorem seg_mid {α : Type} (s : List α) {i k : Nat} (hik : i < k) (hk : k ≤ s.length) (x : α) (hx : s[i]? = some x) : seg s 0 (k : Int) = seg s 0 (i : Int) ++ [x] ++ seg s ((i : Int) + 1) (k : Int) := by
  have e1 : seg s ((i : Int) + 1) (k : Int) = (s.take k).drop (i + 1) := by unfold seg; congr 1
  have e2 : seg s 0 (k : Int) = s.take k := by simp [seg]
  have e3 : seg s 0 (i : Int) = (s.take k).take i := by simp [seg, List.take_take]; omega
  rw [e1, e2, e3]
  have hx' : (s.take k)[i]? = some x := by rw [List.getElem?_take, if_pos hik]; exact hx
  have : (s.take k).take i ++ [x] = (s.take k).take (i + 1) := by rw [List.take_add_one, hx']; rfl
  rw [this, List.take_append_drop]
/-- the loop that looks for the upper copper's thickness -/
theorem add_inner {m : List Material} (hm : MatsOk m) {s : List Layer} {a b up : Str} (hup : (up = a ∧ upper s a b = true ∧ (a ≠ b → upper s b a = false)) ∨ (up = b ∧ upper s b a = true ∧ (a ≠ b → upper s a b = false))) (hab : a ≠ b) {l : Layer} (hk : l.Name = up → kindAt m l = 1) {k : Nat} {n : Int} {next : Int → Prop}
    (h : next (if l.Name = up then (matOf m l.Material).Thick else n)) : M_law_StackAddUp_L1 m s a b k l n next := by
  unfold M_law_StackAddUp_L1
  refine forIn0 (fun k n' => n' = if l.Name = up ∧ (m.take k).any (fun y => y.Name == l.Material) = true then (matOf m l.Material).Thick else n) (by simp) (fun k x n' hx hI nx hn => ?_) (fun n' hI => ?_)
  · subst hI
    have hany : (m.take (k + 1)).any (fun y => y.Name == l.Material) = ((m.take k).any (fun y => y.Name == l.Material) || x.Name == l.Material) := by rw [List.take_add_one, hx, List.any_append]; simp
    unfold M_law_StackAddUp_L2
    have fin : ∀ c : Bool, c = (decide (l.Name = up)) → x.Name = l.Material → M_law_StackAddUp_k4 x (if l.Name = up ∧ (m.take k).any (fun y => y.Name == l.Material) = true then (matOf m l.Material).Thick else n) nx c := by
      intro c hc he
      have hmat : matOf m l.Material = x := by unfold matOf; rw [find_some (key := Material.Name) hm.rise hx he]; rfl
      unfold M_law_StackAddUp_k4
      subst hc
      refine cnd_of (fun e => hn _ ?_) (fun e => hn _ ?_)
      · have : l.Name = up := by simpa using e
        rw [if_pos ⟨this, by rw [hany, he]; simp⟩, hmat]
      · have : ¬ l.Name = up := by simpa using e
        rw [if_neg (fun e => this e.1), if_neg (fun e => this e.1)]
    refine cnd_of (fun e => ?_) (fun e => ?_)
    · have he : x.Name = l.Material := by simpa using e
      have hkx : l.Name = up → x.Kind = 1 := fun e2 => by
        have := hk e2
        unfold kindAt matOf at this
        rw [find_some (key := Material.Name) hm.rise hx he] at this
        exact this
      have fin' := fun c hc => fin c hc he
      generalize (if l.Name = up ∧ (m.take k).any (fun y => y.Name == l.Material) = true then (matOf m l.Material).Thick else n) = nn at *
      have hpart : ∀ c : Bool, (c = false → M_law_StackAddUp_k4 x nn nx false) → True := fun _ _ => trivial
      refine cnd_of (fun e1 => cnd_of (fun e2 => S_ref4_IsUpper (cnd_of (fun e3 => fin' _ ?_) (fun e3 => cnd_of (fun e4 => ?_) (fun e4 => fin' _ ?_)))) (fun e2 => cnd_of (fun e4 => ?_) (fun e4 => fin' _ ?_))) (fun e1 => cnd_of (fun e4 => cnd_of (fun e2 => S_ref4_IsUpper (fin' _ ?_)) (fun e2 => fin' _ ?_)) (fun e4 => fin' _ ?_))
      · have : l.Name = a := by simpa using e1
        rcases hup with ⟨rfl, _⟩ | ⟨_, _, h3⟩
        · simp [this]
        · rw [h3 hab] at e3; cases e3
      · have h1 : l.Name = a := by simpa using e1
        have h4 : l.Name = b := by simpa using e4
        exact absurd (h1.symm.trans h4) hab
      · have h1 : l.Name = a := by simpa using e1
        rcases hup with ⟨_, h2, _⟩ | ⟨rfl, _⟩
        · rw [h2] at e3; cases e3
        · simp [h1, hab]
      · have h1 : l.Name = a := by simpa using e1
        have h4 : l.Name = b := by simpa using e4
        exact absurd (h1.symm.trans h4) hab
      · have h1 : l.Name = a := by simpa using e1
        have h2 : ¬ x.Kind = 1 := by simpa using e2
        have : ¬ l.Name = up := fun e => h2 (hkx e)
        simp [this]
      · have h4 : l.Name = b := by simpa using e4
        rcases hup with ⟨rfl, _, h3⟩ | ⟨rfl, h3, _⟩
        · rw [h3 hab]; have : ¬ l.Name = up := by simpa using e1
          simp [this]
        · rw [h3]; simp [h4]
      · have h2 : ¬ x.Kind = 1 := by simpa using e2
        have : ¬ l.Name = up := fun e => h2 (hkx e)
        simp [this]
      · have h1 : ¬ l.Name = a := by simpa using e1
        have h4 : ¬ l.Name = b := by simpa using e4
        rcases hup with ⟨rfl, _⟩ | ⟨rfl, _⟩ <;> simp [h1, h4]
    · have he : (x.Name == l.Material) = false := by simpa using e
      unfold M_law_StackAddUp_k4
      rw [cnd_false]
      refine hn _ ?_
      rw [hany, he, Bool.or_false]
  · subst hI
    rw [List.take_length]
    have : (if l.Name = up ∧ m.any (fun y => y.Name == l.Material) = true then (matOf m l.Material).Thick else n) = (if l.Name = up then (matOf m l.Material).Thick else n) := by
      by_cases hu : l.Name = up
      · have hk1 := hk hu
        unfold kindAt matOf at hk1
        cases hf : m.find? (fun y => y.Name == l.Material) with
        | none => rw [hf] at hk1; cases hk1
        | some y =>
          have : m.any (fun y => y.Name == l.Material) = true := List.any_eq_true.2 ⟨y, List.mem_of_find?_eq_some hf, List.find?_some (p := fun y : Material => y.Name == l.Material) hf⟩
          simp [hu, this]
      · simp [hu]
    rw [this]; exact h
theorem stack_names {m : List Material} {s : List Layer} (hb : ∀ i x, s[i]? = some x → layerBad m s i x = 0) {i j : Nat} {x y : Layer} (hx : s[i]? = some x) (hy : s[j]? = some y) (he : x.Name = y.Name) (hne : x.Name ≠ []) : i = j := by
  have key : ∀ (i j : Nat) (x y : Layer), s[i]? = some x → s[j]? = some y → x.Name = y.Name → x.Name ≠ [] → i < j → False := by
    intro i j x y hx hy he hne hij
    have h := hb j y hy
    obtain ⟨_, h2⟩ := name_kind h
    have hk : kindAt m y = 1 := Decidable.not_not.1 fun e => hne (he.trans (h2 e))
    unfold layerBad at h
    split at h; · omega
    split at h; · omega
    split at h; · omega
    rename_i hn
    refine hn ⟨hk, List.any_eq_true.2 ⟨x, ?_, by simpa using he⟩⟩
    exact List.mem_of_getElem? (i := i) (by rw [List.getElem?_take, if_pos hij]; exact hx)
  rcases Nat.lt_trichotomy i j with h | h | h
  · exact (key i j x y hx hy he hne h).elim
  · exact h
  · exact (key j i y x hy hx he.symm (he ▸ hne) h).elim
theorem add_outer {m : List Material} (hm : MatsOk m) {s : List Layer} (hb : ∀ i x, s[i]? = some x → layerBad m s i x = 0) {a b up : Str} (hup : (up = a ∧ upper s a b = true ∧ (a ≠ b → upper s b a = false)) ∨ (up = b ∧ upper s b a = true ∧ (a ≠ b → upper s a b = false))) (hab : a ≠ b)
    {i : Nat} {x : Layer} (hx : s[i]? = some x) (hxn : x.Name = up) (hne : up ≠ []) {Q : Int → Prop} (h : Q (matOf m x.Material).Thick) :
    forIn' (fun k x (s_ : Int) next => M_law_StackAddUp_L1 m s a b k x s_ (fun n2 => next n2)) (fun (s : Int) => Q s) s 0 0 := by
  refine forIn0 (fun k n => n = if i < k then (matOf m x.Material).Thick else 0) (by simp) (fun k l n hl hI next hn => ?_) (fun n hI => ?_)
  · refine add_inner (k := k) hm hup hab (fun e => ?_) (hn _ ?_)
    · obtain ⟨_, h2⟩ := name_kind (hb k l hl)
      exact Decidable.not_not.1 fun e2 => hne (e ▸ h2 e2)
    · by_cases hk : l.Name = up
      · have : i = k := stack_names hb hx hl (hxn.trans hk.symm) (hxn ▸ hne)
        subst this
        rw [hx] at hl; injection hl with hl; subst hl
        rw [if_pos hk, if_pos (by omega)]
      · rw [if_neg hk, hI]
        have : i ≠ k := fun e => by subst e; rw [hx] at hl; injection hl with hl; subst hl; exact hk hxn
        by_cases hik : i < k
        · rw [if_pos hik, if_pos (by omega)]
        · rw [if_neg hik, if_neg (by omega)]
  · rw [hI, if_pos (lt_of_get hx)]; exact h
theorem law_StackAddUp_true (m : List Material) (s : List Layer) (a b : Str) (hmf : Fits.fits m) (hf : Fits.fits s) : M_law_StackAddUp m s a b (· = true) := by
  unfold M_law_StackAddUp
  have aw : M_awake (fun y => y = true) := S_awake rfl
  refine S_stack_Depth hmf hf ?_
  by_cases h0 : stackFault m s = 0
  · unfold depthOf
    rw [if_pos h0]
    by_cases ha : placeNum s a < 0
    · rw [if_pos ha]
      refine S_stack_Depth hmf hf ?_
      unfold depthOf
      rw [if_pos h0]
      have fin : ∀ y3 y4 : Int, M_stack_Apart m s a b fun y5 y6 => cnd ((9 : Int) != 0) (M_law_StackAddUp_k1 m s a b (· = true) 0 9 y3 y5 true) (cnd (y4 != 0) (M_law_StackAddUp_k1 m s a b (· = true) 0 9 y3 y5 true) (M_law_StackAddUp_k1 m s a b (· = true) 0 9 y3 y5 (y6 != 0))) := by
        intro y3 y4
        obtain ⟨n, f, hv⟩ := apart_val m s a b
        refine S_stack_Apart hmf hf ((hv _).2 ?_)
        unfold M_law_StackAddUp_k1
        simp
        exact aw
      split <;> exact fin _ _
    · rw [if_neg ha]
      obtain ⟨i, hi⟩ : ∃ i : Nat, placeNum s a = (i : Int) := ⟨(placeNum s a).toNat, by omega⟩
      rw [hi]
      refine S_stack_Depth hmf hf ?_
      unfold depthOf
      rw [if_pos h0]
      by_cases hb : placeNum s b < 0
      · rw [if_pos hb]
        refine S_stack_Apart hmf hf ?_
        unfold apartOf
        rw [if_pos h0, if_pos (.inr hb)]
        unfold M_law_StackAddUp_k1
        simp
        exact aw
      · rw [if_neg hb]
        obtain ⟨k, hk⟩ : ∃ k : Nat, placeNum s b = (k : Int) := ⟨(placeNum s b).toNat, by omega⟩
        rw [hk]
        obtain ⟨hm, hl, _, _, _, hbad⟩ := stack_ok h0
        refine S_stack_Apart hmf hf ?_
        unfold apartOf
        rw [if_pos h0, if_neg (by omega), hi, hk]
        obtain ⟨hna, ⟨x, hx, hxn⟩, _⟩ := place_some hi
        obtain ⟨hnb, ⟨y, hy, hyn⟩, _⟩ := place_some hk
        have hxl := lt_of_get hx
        have hyl := lt_of_get hy
        unfold M_law_StackAddUp_k1
        by_cases hik : i = k
        · subst hik
          have hab : a = b := by rw [hx] at hy; injection hy with hy; rw [← hxn, ← hyn, hy]
          subst hab
          rw [if_pos rfl]
          simp
          exact aw
        · rw [if_neg (by omega)]
          have hab : a ≠ b := fun e => by subst e; rw [hi] at hk; omega
          have habf : (a == b) = false := by simpa using hab
          simp only [bne_self_eq_false, cnd_false, habf]
          have tb : ∀ l : List Layer, l.length ≤ 60 → 0 ≤ thickOf m l ∧ thickOf m l ≤ 120000 := fun l hl => by have := thickOf_bound hm l; omega
          have sl : ∀ p q : Int, (seg s p q).length ≤ 60 := fun p q => by have := seg_len_le s p q; omega
          rcases Nat.lt_or_ge i k with hlt | hge
          · refine add_outer hm hbad (up := a) (.inl ⟨rfl, (upper_first hi hk hlt).1, (upper_first hi hk hlt).2⟩) hab hx hxn hna ?_
            have e := seg_mid s hlt (by omega) x hx
            have hs : thickOf m (seg s 0 (k : Int)) = thickOf m (seg s 0 (i : Int)) + (matOf m x.Material).Thick + thickOf m (seg s ((i : Int) + 1) (k : Int)) := by
              rw [e, thickOf_append, thickOf_append]; simp [thickOf_cons, thickOf]
            have b1 := tb _ (sl 0 (i : Int)); have b2 := tb _ (sl ((i : Int) + 1) (k : Int)); have b3 := hasMat_kind hm x.Material; have b4 := tb _ (sl 0 (k : Int))
            have e1 : min (i : Int) (k : Int) = i := by omega
            have e2 : max (i : Int) (k : Int) = k := by omega
            rw [e1, e2]
            have e3 : min (thickOf m (seg s 0 (i : Int))) (thickOf m (seg s 0 (k : Int))) = thickOf m (seg s 0 (i : Int)) := by omega
            have e4 : max (thickOf m (seg s 0 (i : Int))) (thickOf m (seg s 0 (k : Int))) = thickOf m (seg s 0 (k : Int)) := by omega
            rw [e3, e4]
            rw [w64_id (n := thickOf m (seg s 0 (i : Int)) + (matOf m x.Material).Thick) (by omega) (by omega), w64_id (by omega) (by omega), ← hs]
            simp
            exact aw
          · have hlt : k < i := by omega
            refine add_outer hm hbad (up := b) (.inr ⟨rfl, (upper_first hk hi hlt).1, fun _ => (upper_first hk hi hlt).2 (Ne.symm hab)⟩) hab hy hyn hnb ?_
            have e := seg_mid s hlt (by omega) y hy
            have hs : thickOf m (seg s 0 (i : Int)) = thickOf m (seg s 0 (k : Int)) + (matOf m y.Material).Thick + thickOf m (seg s ((k : Int) + 1) (i : Int)) := by
              rw [e, thickOf_append, thickOf_append]; simp [thickOf_cons, thickOf]
            have b1 := tb _ (sl 0 (k : Int)); have b2 := tb _ (sl ((k : Int) + 1) (i : Int)); have b3 := hasMat_kind hm y.Material; have b4 := tb _ (sl 0 (i : Int))
            have e1 : min (i : Int) (k : Int) = k := by omega
            have e2 : max (i : Int) (k : Int) = i := by omega
            rw [e1, e2]
            have e3 : min (thickOf m (seg s 0 (i : Int))) (thickOf m (seg s 0 (k : Int))) = thickOf m (seg s 0 (k : Int)) := by omega
            have e4 : max (thickOf m (seg s 0 (i : Int))) (thickOf m (seg s 0 (k : Int))) = thickOf m (seg s 0 (i : Int)) := by omega
            rw [e3, e4]
            rw [w64_id (n := thickOf m (seg s 0 (k : Int)) + (matOf m y.Material).Thick) (by omega) (by omega), w64_id (by omega) (by omega), ← hs]
            simp
            exact aw
  · unfold depthOf
    rw [if_neg h0]
    refine S_stack_Depth hmf hf ?_
    unfold depthOf
    rw [if_neg h0]
    refine S_stack_Apart hmf hf ?_
    unfold apartOf
    rw [if_neg h0]
    unfold M_law_StackAddUp_k1
    have h1 : (stackFault m s != 0) = true := by simpa using h0
    have h2 : (stackFault m s == 0) = false := by simpa using h0
    simp only [h1, h2, cnd_true, cnd_false, beq_self_eq_true]
    exact aw
end Go.Proofs.Ytjkkefhfbcgahaa
