/- Chapter texts of ours, as far as the claim needs them. -/
import Derived.Test.YtfjcgoiedlimdaaGreatDoorRtD
import Derived.Test.YtfjcgoiedlimdaaGreatDoorMaps
namespace Go.Proofs.YtfjcgoiedlimdaaGreatDoor
open Go Go.RowKit
set_option linter.unusedVariables false
set_option linter.unusedSectionVars false
set_option linter.unusedSimpArgs false
def badByte (x : UInt8) : Bool := (decide ((x.toNat : Int) < 65) || decide ((x.toNat : Int) > 90)) && (decide ((x.toNat : Int) < 97) || decide ((x.toNat : Int) > 122)) && (decide ((x.toNat : Int) < 48) || decide ((x.toNat : Int) > 57)) && decide (byteAt [95, 43, 45, 35] (x.toNat : Int) < 0)
def isWord (s : Str) : Bool := !(s.any badByte) && decide (1 ≤ s.length) && decide (s.length ≤ 40)
theorem H9 {s : Str} (hs : s.length ≤ 9223372036854775807) {F : (Int → Prop) → Int → Prop} {Q : Bool → Prop}
    (hF : ∀ X n, cnd (decide (n < (s.length : Int))) (idx s n fun x => cnd (badByte x) (Q false) (X (w64 (n + 1)))) (Q (decide (1 ≤ s.length) && decide (s.length ≤ 40))) → F X n) (h : Q (isWord s)) : lp F 0 := by
  refine OI hs badByte hF ?_
  unfold isWord at h
  split
  · rename_i e; simpa [e] using h
  · rename_i e; simpa [e] using h
theorem JI (s u : Str) : s = u ∨ qm s u = true ∨ qm u s = true := by
  rcases J7 s u with ⟨_, h⟩ | ⟨_, h, _⟩ | ⟨_, h, _, _⟩
  · exact .inl h
  · exact .inr (.inl h)
  · exact .inr (.inr h)
section
variable {α : Type} {key : α → Str} {t : List α}
def NK (key : α → Str) (t : List α) : Prop := ∀ i x y, t[i]? = some x → t[i + 1]? = some y → qm (key x) (key y) = true
def under [Inhabited α] (key : α → Str) (t : List α) (k : Nat) (x : α) : Bool := decide (0 < k) && (qm (key x) (key (t.getD (k - 1) default)) || key x == key (t.getD (k - 1) default))
theorem MB [Inhabited α] {k : Nat} (hk : k ≤ t.length) (hl : t.length ≤ 500000) {K : α → Prop} {B : Prop} (h1 : 0 < k → K (t.getD (k - 1) default)) (h0 : k = 0 → B) : cnd (decide ((k : Int) > 0)) (idx t (w64 ((k : Int) - 1)) K) B := by
  refine fB (fun e => ?_) (fun e => h0 (by simp at e; omega))
  have hk : 0 < k := by simpa using e
  have hw' : w64 ((k : Int) - 1) = ((k - 1 : Nat) : Int) := by rw [fO] <;> omega
  rw [hw']
  exact gG (by rw [List.getD_eq_getElem?_getD, List.getElem?_eq_getElem (by omega)]; rfl) (h1 hk)
theorem Gj [Inhabited α] {k : Nat} {x : α} (hk : k ≤ t.length) (hl : t.length ≤ 500000) {K : Bool → Prop} (h : K (under key t k x)) :
    cnd (decide ((k : Int) > 0)) (idx t (w64 ((k : Int) - 1)) fun y => K (qm (key x) (key y) || key x == key y)) (K false) :=
  MB hk hl (fun h0 => by simpa [under, h0] using h) (fun h0 => by simpa [under, h0] using h)
theorem MX [Inhabited α] (h : ∀ i x, t[i]? = some x → under key t i x = false) : NK key t := fun i x y hx hy => by
  have := h (i + 1) y hy
  have e : t.getD (i + 1 - 1) default = x := OZ hx
  unfold under at this
  rw [e] at this
  simp only [Nat.zero_lt_succ, decide_true, Bool.true_and, Bool.or_eq_false_iff, beq_eq_false_iff_ne] at this
  rcases JI (key x) (key y) with h1 | h1 | h1
  · exact absurd h1.symm this.2
  · exact h1
  · rw [this.1] at h1; cases h1
theorem Jz {body : Nat → α → Unit → (Unit → Prop) → Prop} {Q : Int → Prop} {D : Prop} (f : Nat → α → Int)
    (hb : ∀ i x next, t[i]? = some x → (f i x ≠ 0 → Q (f i x)) → (f i x = 0 → next ()) → body i x () next) (h : if iM f t 0 = 0 then D else Q (iM f t 0)) : forIn' body (fun _ => D) t 0 () := by
  refine IC f (fun _ => ()) rfl (A := Q) (fun i x next hx hf hA => hb i x next hx (fun _ => hA) (fun e => absurd e hf)) (fun i x next hx hf _ hn => hb i x next hx (fun e => absurd hf e) (fun _ => hn)) (fun e => ?_) (fun e => ?_)
  · rw [if_neg e] at h; exact h
  · rw [if_pos e] at h; exact h
theorem zU {f : Nat → α → Int} : ∀ (t : List α) (k i : Nat) (x : α), (∀ j y, j < i → t[j]? = some y → f (k + j) y = 0) → t[i]? = some x → f (k + i) x ≠ 0 → iM f t k = f (k + i) x
  | [], _, _, _, _, hx, _ => by simp at hx
  | y :: r, k, 0, x, _, hx, hne => by simp at hx; subst hx; unfold iM; rw [if_pos (by simpa using hne)]; simp
  | y :: r, k, i + 1, x, hj, hx, hne => by
    have h0 : f k y = 0 := hj 0 y (by omega) rfl
    unfold iM
    rw [if_neg (by simpa using h0)]
    have := zU r (k + 1) i x (fun j z hji hz => by have := hj (j + 1) z (by omega) (by simpa using hz); rwa [show k + (j + 1) = k + 1 + j by omega] at this) (by simpa using hx) (by rwa [show k + 1 + i = k + (i + 1) by omega])
    rw [this, show k + 1 + i = k + (i + 1) by omega]
theorem qV {f : Nat → α → Int} : ∀ (t : List α) (k : Nat), (∀ j y, t[j]? = some y → f (k + j) y = 0) → iM f t k = 0
  | [], _, _ => rfl
  | y :: r, k, hj => by
    have h0 : f k y = 0 := hj 0 y rfl
    unfold iM
    rw [if_neg (by simpa using h0)]
    exact qV r (k + 1) (fun j z hz => by have := hj (j + 1) z (by simpa using hz); rwa [show k + (j + 1) = k + 1 + j by omega] at this)
theorem ve {body : Nat → α → Unit → (Unit → Prop) → Prop} {Q : Int → Prop} {D : Prop} (f : Nat → α → Int)
    (hb : ∀ i x next, t[i]? = some x → (∀ j y, j < i → t[j]? = some y → f j y = 0) → (f i x ≠ 0 → Q (f i x)) → (f i x = 0 → next ()) → body i x () next) (h : if iM f t 0 = 0 then D else Q (iM f t 0)) : forIn' body (fun _ => D) t 0 () := by
  refine jO (fun k _ => ∀ j y, j < k → t[j]? = some y → f j y = 0) (fun j y hj => by omega) (fun k x s hx hI next hn => ?_) (fun s hI => ?_)
  · refine hb k x next hx hI (fun hne => ?_) (fun h0 => hn _ (fun j y hj hy => ?_))
    · have h2 := zU (f := f) t 0 k x (fun j y hj hy => by rw [Nat.zero_add]; exact hI j y hj hy) hx (by rw [Nat.zero_add]; exact hne)
      rw [Nat.zero_add] at h2
      rw [h2, if_neg hne] at h
      exact h
    · rcases Nat.lt_or_ge j k with hlt | hge
      · exact hI j y hlt hy
      · have : j = k := by omega
        subst this; rw [hx] at hy; injection hy with hy; subst hy; exact h0
  · have := qV t 0 (f := f) (fun j y hy => by rw [Nat.zero_add]; exact hI j y (dO hy) hy)
    rw [if_pos this] at h
    exact h
theorem Af {f : Nat → α → Int} (h : iM f t 0 = 0) : ∀ i x, t[i]? = some x → f i x = 0 := fun i x hx => by
  have := wC h i x hx; rwa [Nat.zero_add] at this
end
end Go.Proofs.YtfjcgoiedlimdaaGreatDoor
