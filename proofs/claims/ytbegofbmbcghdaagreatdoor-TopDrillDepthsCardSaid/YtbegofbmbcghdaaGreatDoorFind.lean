/- Chapter texts of ours, as far as the claim needs them. -/
import Derived.Test.YtbegofbmbcghdaaGreatDoorPlain
import Derived.Test.YtbegofbmbcghdaaGreatDoorWord
namespace Go.Proofs.YtbegofbmbcghdaaGreatDoor
open Go Go.RowKit
set_option linter.unusedVariables false
set_option linter.unusedSectionVars false
set_option linter.unusedSimpArgs false
def badByte (x : UInt8) : Bool := (decide ((x.toNat : Int) < 65) || decide ((x.toNat : Int) > 90)) && (decide ((x.toNat : Int) < 97) || decide ((x.toNat : Int) > 122)) && (decide ((x.toNat : Int) < 48) || decide ((x.toNat : Int) > 57)) && decide (byteAt [95, 43, 45, 35] (x.toNat : Int) < 0)
def isWord (s : Str) : Bool := !(s.any badByte) && decide (1 ≤ s.length) && decide (s.length ≤ 40)
theorem Pg {s : Str} (hs : s.length ≤ 9223372036854775807) {F : (Int → Prop) → Int → Prop} {Q : Bool → Prop}
    (hF : ∀ X n, cnd (decide (n < (s.length : Int))) (idx s n fun x => cnd (badByte x) (Q false) (X (w64 (n + 1)))) (Q (decide (1 ≤ s.length) && decide (s.length ≤ 40))) → F X n) (h : Q (isWord s)) : lp F 0 := by
  refine Ro hs badByte hF ?_
  unfold isWord at h
  split
  · rename_i e; simpa [e] using h
  · rename_i e; simpa [e] using h
theorem yJ : ∀ s : Str, gI s s = false := by
  intro s
  rcases vW s s with ⟨_, _⟩ | ⟨_, _, h⟩ | ⟨_, _, _, h⟩
  · induction s with
    | nil => rfl
    | cons x r ih =>
      have h5 : ¬ x < x := by rw [UInt8.lt_iff_toNat_lt]; omega
      unfold gI at *
      simp [Op.bytesLess, h5]
      rcases vW r r with ⟨a, b⟩ | ⟨_, _, h⟩ | ⟨_, _, _, h⟩
      · exact ih a b
      · exact absurd rfl h
      · exact absurd rfl h
  · exact absurd rfl h
  · exact absurd rfl h
theorem BL : ∀ s u v : Str, gI s u = true → gI u v = true → gI s v = true := by
  unfold gI
  intro s
  induction s with
  | nil => intro u v h1 h2; cases v with
    | nil => cases u <;> simp [Op.bytesLess] at h2
    | cons y v => rfl
  | cons x s ih =>
    intro u v h1 h2
    cases u with
    | nil => simp [Op.bytesLess] at h1
    | cons y u =>
      cases v with
      | nil => simp [Op.bytesLess] at h2
      | cons z v =>
        simp only [Op.bytesLess, Bool.or_eq_true, decide_eq_true_eq, Bool.and_eq_true, beq_iff_eq] at h1 h2 ⊢
        rw [UInt8.lt_iff_toNat_lt] at *
        rcases h1 with h1 | ⟨rfl, h1⟩ <;> rcases h2 with h2 | ⟨rfl, h2⟩
        · left; omega
        · left; exact h1
        · left; rw [← UInt8.lt_iff_toNat_lt]; exact h2
        · right; exact ⟨rfl, ih _ _ h1 h2⟩
theorem Nj (s u : Str) : s = u ∨ gI s u = true ∨ gI u s = true := by
  rcases vW s u with ⟨_, h⟩ | ⟨_, h, _⟩ | ⟨_, h, _, _⟩
  · exact .inl h
  · exact .inr (.inl h)
  · exact .inr (.inr h)
section
variable {α : Type} {key : α → Str} {t : List α}
def wK (key : α → Str) (t : List α) : Prop := ∀ i x y, t[i]? = some x → t[i + 1]? = some y → gI (key x) (key y) = true
theorem J6 (h : wK key t) : ∀ (d i : Nat) x y, t[i]? = some x → t[i + d + 1]? = some y → gI (key x) (key y) = true
  | 0, i, x, y, hx, hy => h i x y hx hy
  | d + 1, i, x, y, hx, hy => by
    have hlt := TL hy
    have hz : t[i + d + 1]? = some t[i + d + 1] := List.getElem?_eq_getElem (by omega)
    exact BL _ _ _ (J6 h d i x _ hx hz) (h _ _ _ hz hy)
theorem yj (h : wK key t) {i k : Nat} {x y : α} (hx : t[i]? = some x) (hy : t[k]? = some y) (hik : i < k) : gI (key x) (key y) = true := by
  obtain ⟨d, rfl⟩ : ∃ d, k = i + d + 1 := ⟨k - i - 1, by omega⟩
  exact J6 h d i x y hx hy
theorem NR (h : wK key t) {i k : Nat} {x y : α} (hx : t[i]? = some x) (hy : t[k]? = some y) (he : key x = key y) : i = k := by
  rcases Nat.lt_trichotomy i k with h1 | h1 | h1
  · have := yj h hx hy h1; rw [he, yJ] at this; cases this
  · exact h1
  · have := yj h hy hx h1; rw [he, yJ] at this; cases this
theorem JX (h : wK key t) {name : Str} {i : Nat} {x : α} (hx : t[i]? = some x) (hn : key x = name) : t.find? (fun b => key b == name) = some x := by
  cases hf : t.find? (fun b => key b == name) with
  | none => rw [List.find?_eq_none] at hf; have := hf x (List.mem_of_getElem? hx); simp [hn] at this
  | some y =>
    have hy := List.find?_some hf
    have hm := List.mem_of_find?_eq_some hf
    obtain ⟨k, hk⟩ := List.getElem?_of_mem hm
    have : i = k := NR h hx hk (by rw [hn]; simp at hy; exact hy.symm)
    subst this; rw [hx] at hk; exact hk.symm ▸ rfl
theorem PG {lo hi : Nat} (h : lo + hi ≤ 1000000) : cvt .i64 (ja .u64 (cvt .u64 (w64 ((lo : Int) + (hi : Int)))) 1) = (((lo + hi) / 2 : Nat) : Int) := by
  have h1 : w64 ((lo : Int) + (hi : Int)) = ((lo + hi : Nat) : Int) := by rw [gV] <;> omega
  rw [h1]
  unfold cvt ja
  have h2 : IntKind.u64.wrap ((lo + hi : Nat) : Int) = ((lo + hi : Nat) : Int) := by
    show ((lo + hi : Nat) : Int) % 18446744073709551616 = _
    omega
  rw [h2]
  have h3 : ((lo + hi : Nat) : Int).fdiv (2 ^ (min (Int.toNat 1) IntKind.u64.bits)) = (((lo + hi) / 2 : Nat) : Int) := by
    show ((lo + hi : Nat) : Int).fdiv 2 = _
    rw [Int.fdiv_eq_ediv_of_nonneg _ (by decide)]; omega
  rw [h3]
  exact gV (by omega) (by omega)
theorem Bv (hr : wK key t) (hl : t.length ≤ 500000) {name : Str} {F : (Int × Int → Prop) → Int × Int → Prop} {Q : Int → Bool → Prop}
    (hF : ∀ X lo hi, cnd (decide (lo < hi)) (idx t (cvt .i64 (ja .u64 (cvt .u64 (w64 (lo + hi))) 1)) fun x => cnd (decide (iw (key x) name < 0)) (X (w64 ((cvt .i64 (ja .u64 (cvt .u64 (w64 (lo + hi))) 1)) + 1), hi)) (X (lo, cvt .i64 (ja .u64 (cvt .u64 (w64 (lo + hi))) 1))))
      (cnd (decide (lo < (t.length : Int))) (idx t lo fun x => Q lo (iw (key x) name == 0)) (Q lo false)) → F X (lo, hi))
    (h1 : ∀ (i : Nat) x, t[i]? = some x → key x = name → Q i true) (h0 : (∀ x ∈ t, key x ≠ name) → ∀ i : Nat, i ≤ t.length → Q i false) : lp F (0, (t.length : Int)) := by
  refine sQ (fun s => ∃ lo hi : Nat, s = ((lo : Int), (hi : Int)) ∧ lo ≤ hi ∧ hi ≤ t.length ∧ (∀ i x, i < lo → t[i]? = some x → gI (key x) name = true) ∧ (∀ i x, hi ≤ i → t[i]? = some x → gI (key x) name = false)) (fun s => (s.2 - s.1).toNat) ⟨0, t.length, rfl, by omega, by omega, fun i x hi => by omega, fun i x hi hx => by have := TL hx; omega⟩ ?_
  rintro X _ ⟨lo, hi, rfl, h1', h2, h3, h4⟩ hX
  refine hF X _ _ ?_
  rw [PG (by omega)]
  refine eU (fun e => ?_) (fun e => ?_)
  · have hlt : lo < hi := by simp at e; omega
    have hm : (lo + hi) / 2 < t.length := by omega
    refine gW (List.getElem?_eq_getElem hm) (eU (fun e2 => ?_) (fun e2 => ?_))
    · have hw : w64 ((((lo + hi) / 2 : Nat) : Int) + 1) = (((lo + hi) / 2 + 1 : Nat) : Int) := by rw [gV] <;> omega
      rw [hw]
      refine hX _ ⟨_, _, rfl, by omega, h2, fun i x hi' hx => ?_, h4⟩ (by simp only; omega)
      have hs : gI (key t[(lo + hi) / 2]) name = true := by
        have := vW (key t[(lo + hi) / 2]) name
        simp at e2
        rcases this with ⟨a, _⟩ | ⟨_, a, _⟩ | ⟨a, _⟩
        · omega
        · exact a
        · omega
      rcases Nat.lt_or_ge i ((lo + hi) / 2) with hc | hc
      · exact BL _ _ _ (yj hr hx (List.getElem?_eq_getElem hm) hc) hs
      · have : i = (lo + hi) / 2 := by omega
        subst this; rw [List.getElem?_eq_getElem hm] at hx; injection hx with hx; subst hx; exact hs
    · refine hX _ ⟨_, _, rfl, by omega, by omega, h3, fun i x hi' hx => ?_⟩ (by simp only; omega)
      have hs : gI (key t[(lo + hi) / 2]) name = false := by
        have := vW (key t[(lo + hi) / 2]) name
        simp at e2
        rcases this with ⟨_, a⟩ | ⟨a, _⟩ | ⟨_, _, a, _⟩
        · rw [a]; exact yJ _
        · omega
        · exact a
      rcases Nat.lt_or_ge ((lo + hi) / 2) i with hc | hc
      · cases hb : gI (key x) name with
        | false => rfl
        | true => have := BL _ _ _ (yj hr (List.getElem?_eq_getElem hm) hx hc) hb; rw [hs] at this; cases this
      · have : i = (lo + hi) / 2 := by omega
        subst this; rw [List.getElem?_eq_getElem hm] at hx; injection hx with hx; subst hx; exact hs
  · have heq : lo = hi := by simp at e; omega
    subst heq
    have none_of : (∀ x, t[lo]? = some x → key x ≠ name) → ∀ x ∈ t, key x ≠ name := by
      intro hne x hx he
      obtain ⟨i, hi⟩ := List.getElem?_of_mem hx
      rcases Nat.lt_trichotomy i lo with hc | hc | hc
      · have := h3 i x hc hi; rw [he, yJ] at this; cases this
      · subst hc; exact hne x hi he
      · have hl' := TL hi
        have h5 := h4 lo _ (Nat.le_refl _) (List.getElem?_eq_getElem (by omega))
        have h6 := yj hr (List.getElem?_eq_getElem (show lo < t.length by omega)) hi hc
        rw [he, h5] at h6; cases h6
    refine eU (fun e2 => ?_) (fun e2 => ?_)
    · have hlt : lo < t.length := by simp at e2; omega
      refine gW (List.getElem?_eq_getElem hlt) ?_
      have := vW (key t[lo]) name
      rcases this with ⟨a, b⟩ | ⟨a, _, b⟩ | ⟨a, _, _, b⟩
      · rw [a]; exact h1 lo _ (List.getElem?_eq_getElem hlt) b
      · rw [a]; exact h0 (none_of (fun x hx => by rw [List.getElem?_eq_getElem hlt] at hx; injection hx with hx; subst hx; exact b)) lo h2
      · rw [a]; exact h0 (none_of (fun x hx => by rw [List.getElem?_eq_getElem hlt] at hx; injection hx with hx; subst hx; exact b)) lo h2
    · exact h0 (none_of (fun x hx => by have := TL hx; simp at e2; omega)) lo h2
def under [Inhabited α] (key : α → Str) (t : List α) (k : Nat) (x : α) : Bool := decide (0 < k) && (gI (key x) (key (t.getD (k - 1) default)) || key x == key (t.getD (k - 1) default))
theorem OL [Inhabited α] {k : Nat} (hk : k ≤ t.length) (hl : t.length ≤ 500000) {K : α → Prop} {B : Prop} (h1 : 0 < k → K (t.getD (k - 1) default)) (h0 : k = 0 → B) : cnd (decide ((k : Int) > 0)) (idx t (w64 ((k : Int) - 1)) K) B := by
  refine eU (fun e => ?_) (fun e => h0 (by simp at e; omega))
  have hk : 0 < k := by simpa using e
  have hw' : w64 ((k : Int) - 1) = ((k - 1 : Nat) : Int) := by rw [gV] <;> omega
  rw [hw']
  exact gW (by rw [List.getD_eq_getElem?_getD, List.getElem?_eq_getElem (by omega)]; rfl) (h1 hk)
theorem nX [Inhabited α] {k : Nat} {x : α} (hk : k ≤ t.length) (hl : t.length ≤ 500000) {K : Bool → Prop} (h : K (under key t k x)) :
    cnd (decide ((k : Int) > 0)) (idx t (w64 ((k : Int) - 1)) fun y => K (gI (key x) (key y) || key x == key y)) (K false) :=
  OL hk hl (fun h0 => by simpa [under, h0] using h) (fun h0 => by simpa [under, h0] using h)
theorem Fa [Inhabited α] (h : ∀ i x, t[i]? = some x → under key t i x = false) : wK key t := fun i x y hx hy => by
  have := h (i + 1) y hy
  have e : t.getD (i + 1 - 1) default = x := tZ hx
  unfold under at this
  rw [e] at this
  simp only [Nat.zero_lt_succ, decide_true, Bool.true_and, Bool.or_eq_false_iff, beq_eq_false_iff_ne] at this
  rcases Nj (key x) (key y) with h1 | h1 | h1
  · exact absurd h1.symm this.2
  · exact h1
  · rw [this.1] at h1; cases h1
theorem wo {body : Nat → α → Unit → (Unit → Prop) → Prop} {Q : Int → Prop} {D : Prop} (f : Nat → α → Int)
    (hb : ∀ i x next, t[i]? = some x → (f i x ≠ 0 → Q (f i x)) → (f i x = 0 → next ()) → body i x () next) (h : if iU f t 0 = 0 then D else Q (iU f t 0)) : forIn' body (fun _ => D) t 0 () := by
  refine AA f (fun _ => ()) rfl (A := Q) (fun i x next hx hf hA => hb i x next hx (fun _ => hA) (fun e => absurd e hf)) (fun i x next hx hf _ hn => hb i x next hx (fun e => absurd hf e) (fun _ => hn)) (fun e => ?_) (fun e => ?_)
  · rw [if_neg e] at h; exact h
  · rw [if_pos e] at h; exact h
theorem xY {f : Nat → α → Int} (h : iU f t 0 = 0) : ∀ i x, t[i]? = some x → f i x = 0 := fun i x hx => by
  have := Di h i x hx; rwa [Nat.zero_add] at this
end
end Go.Proofs.YtbegofbmbcghdaaGreatDoor
