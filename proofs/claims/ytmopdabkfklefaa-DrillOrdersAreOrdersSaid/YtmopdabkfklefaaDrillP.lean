/- Chapter 8: the shortest order: the laws, plain. -/
import Derived.Test.YtmopdabkfklefaaDrillN
namespace Go.Proofs.Ytmopdabkfklefaa
open Go Go.RowKit
set_option linter.unusedVariables false
def IsP (n : Nat) (o : List Int) : Prop := o.Nodup ∧ ∀ x ∈ o, 0 ≤ x ∧ x < n
instance (n : Nat) (o : List Int) : Decidable (IsP n o) := by unfold IsP; infer_instance
theorem isP_take {n : Nat} {l : List Int} (h : IsP n l) (k : Nat) : IsP n (l.take k) := ⟨List.Nodup.sublist (List.take_sublist k l) h.1, fun x hx => h.2 x (List.mem_of_mem_take hx)⟩
theorem S_ref8_IsOrder {l : List Int} {n : Nat} (hn : n ≤ 100000) {Q : Bool → Prop} (h : Q (decide (IsP n l ∧ l.length = n))) : M_ref8_IsOrder l (n : Int) Q := by
  unfold M_ref8_IsOrder
  refine ⟨⟨Int.natCast_nonneg _, by omega⟩, ?_⟩
  refine forIn0 (fun k s => s.length = n ∧ IsP n (l.take k) ∧ ∀ i, i < n → s.getD i false = decide ((i : Int) ∈ l.take k)) ⟨by simp, ⟨by simp, fun x hx => by simp at hx⟩, fun i hi => by simp [List.getD_eq_getElem?_getD, List.getElem?_replicate]; split <;> rfl⟩ (fun k x s hx hI next hnx => ?_) (fun s hI => ?_)
  · obtain ⟨i1, i2, i3⟩ := hI
    have hk := lt_of_get hx
    have et : l.take (k + 1) = l.take k ++ [x] := by rw [List.take_add_one, hx]; rfl
    have hw : within x 0 (w64 ((n : Int) - 1)) = decide (0 ≤ x ∧ x < n) := by
      rw [w64_id (by omega) (by omega)]; unfold within
      rw [Bool.eq_iff_iff]; simp; omega
    unfold M_ref8_IsOrder_L1 M_ref8_IsOrder_k2
    rw [hw]
    refine cnd_of (fun e => cnd_of (fun _ => ?_) (fun e => by cases e)) (fun e => ?_)
    · have : decide (IsP n l ∧ l.length = n) = false := by
        refine decide_eq_false (fun hh => ?_)
        have := hh.1.2 x (List.mem_of_getElem? hx)
        simp at e; omega
      rw [this] at h; exact h
    · have hx2 : 0 ≤ x ∧ x < n := by simpa using e
      have hxs : x.toNat < s.length := by omega
      refine ⟨hx2.1, s[x.toNat], List.getElem?_eq_getElem hxs, ?_⟩
      have h3 := i3 x.toNat (by omega)
      rw [List.getD_eq_getElem?_getD, List.getElem?_eq_getElem hxs] at h3
      have hxx : ((x.toNat : Nat) : Int) = x := by omega
      rw [hxx] at h3
      simp only [Option.getD_some] at h3
      refine cnd_of (fun e2 => ?_) (fun e2 => ⟨hx2.1, s[x.toNat], List.getElem?_eq_getElem hxs, hnx _ ⟨by simp [i1], ?_, fun i hi => ?_⟩⟩)
      · have : decide (IsP n l ∧ l.length = n) = false := by
          refine decide_eq_false (fun hh => ?_)
          have := (isP_take hh.1 (k + 1)).1
          rw [et, List.nodup_append] at this
          rw [e2] at h3
          exact this.2.2 x (by simpa using h3.symm) x (by simp) rfl
        rw [this] at h; exact h
      · rw [et]
        rw [e2] at h3
        have hnm : x ∉ l.take k := by simpa using h3.symm
        refine ⟨List.nodup_append.2 ⟨i2.1, by simp, fun a ha b hb => ?_⟩, fun a ha => ?_⟩
        · simp at hb; subst hb; intro hab; subst hab; exact hnm ha
        · rcases List.mem_append.1 ha with ha | ha
          · exact i2.2 a ha
          · simp at ha; subst ha; exact hx2
      · rw [et, List.getD_eq_getElem?_getD, List.getElem?_set]
        have h4 := i3 i hi
        rw [List.getD_eq_getElem?_getD] at h4
        by_cases hxi : x.toNat = i
        · subst hxi; rw [if_pos rfl, if_pos hxs, hxx]; simp
        · rw [if_neg hxi, h4]
          have : ¬ ((i : Int) = x) := by omega
          simp [this]
  · obtain ⟨i1, i2, i3⟩ := hI
    rw [List.take_length] at i2
    have : ((l.length : Int) == (n : Int)) = decide (IsP n l ∧ l.length = n) := by
      rw [Bool.eq_iff_iff]; simp [i2]; omega
    show Q _
    rw [this]; exact h
namespace Short
def go (v : Nat → Int) (s : Int × Int) (k : Nat) : Int × Int := if s.1 < 0 ∨ v k < s.2 then ((k : Int), v k) else s
def sel (v : Nat → Int) (L : List Nat) : Int × Int := L.foldl (go v) (-1, -1)
theorem sel_snoc (v : Nat → Int) (L : List Nat) (k : Nat) : sel v (L ++ [k]) = go v (sel v L) k := by unfold sel; rw [List.foldl_append]; rfl
theorem sel_ind {v : Nat → Int} {p : List Nat → Int × Int → Prop} (h0 : p [] (-1, -1)) (h1 : ∀ L k s, p L s → p (L ++ [k]) (go v s k)) (L : List Nat) : p L (sel v L) := by
  have : ∀ (M L : List Nat) (s : Int × Int), p L s → p (L ++ M) (M.foldl (go v) s) := by
    intro M
    induction M with
    | nil => intro L s h; simpa using h
    | cons k M ih => intro L s h; have := ih (L ++ [k]) (go v s k) (h1 L k s h); simpa using this
  have := this L [] _ h0
  simpa [sel] using this
theorem sel_spec (v : Nat → Int) (L : List Nat) : (L = [] ∧ sel v L = (-1, -1)) ∨ (L ≠ [] ∧ 0 ≤ (sel v L).1 ∧ (sel v L).1.toNat ∈ L ∧ (sel v L).2 = v (sel v L).1.toNat ∧ ∀ k ∈ L, (sel v L).2 ≤ v k) := by
  refine sel_ind (p := fun L s => (L = [] ∧ s = (-1, -1)) ∨ (L ≠ [] ∧ 0 ≤ s.1 ∧ s.1.toNat ∈ L ∧ s.2 = v s.1.toNat ∧ ∀ k ∈ L, s.2 ≤ v k)) (.inl ⟨rfl, rfl⟩) (fun L k s h => .inr ⟨by simp, ?_⟩) L
  unfold go
  rcases h with ⟨rfl, rfl⟩ | ⟨_, h1, h2, h3, h4⟩
  · rw [if_pos (.inl (by decide))]; simp
  · split
    · rename_i hc
      refine ⟨by simp, by simp, by simp, fun j hj => ?_⟩
      rcases List.mem_append.1 hj with hj | hj
      · have := h4 j hj; simp only; omega
      · simp at hj; subst hj; exact Int.le_refl _
    · rename_i hc
      refine ⟨h1, List.mem_append_left _ h2, h3, fun j hj => ?_⟩
      rcases List.mem_append.1 hj with hj | hj
      · exact h4 j hj
      · simp at hj; subst hj; omega
theorem sel_congr {v u : Nat → Int} {L : List Nat} (h : ∀ k ∈ L, v k = u k) : sel v L = sel u L := by
  unfold sel
  have : ∀ (L : List Nat) (s : Int × Int), (∀ k ∈ L, v k = u k) → L.foldl (go v) s = L.foldl (go u) s := by
    intro L
    induction L with
    | nil => intro s _; rfl
    | cons k L ih => intro s h; simp only [List.foldl_cons]; rw [show go v s k = go u s k by unfold go; rw [h k (List.mem_cons_self ..)]]; exact ih _ (fun j hj => h j (List.mem_cons_of_mem _ hj))
  exact this L _ h

def rest (n : Nat) (P : Nat → Bool) : List Nat := (List.range n).filter P
def wo (P : Nat → Bool) (k : Nat) : Nat → Bool := fun i => P i && i != k
theorem mem_rest {n : Nat} {P : Nat → Bool} {k : Nat} : k ∈ rest n P ↔ k < n ∧ P k = true := by unfold rest; simp [List.mem_filter]
theorem nodup_rest (n : Nat) (P : Nat → Bool) : (rest n P).Nodup := List.Nodup.sublist List.filter_sublist List.nodup_range
theorem rest_wo (n : Nat) (P : Nat → Bool) (k : Nat) : rest n (wo P k) = (rest n P).erase k := by
  rw [List.Nodup.erase_eq_filter (nodup_rest n P)]
  unfold rest wo
  rw [List.filter_filter]
  congr 1; funext i; rw [Bool.and_comm]
theorem len_wo {n : Nat} {P : Nat → Bool} {k c : Nat} (h : k ∈ rest n P) (hc : (rest n P).length = c + 1) : (rest n (wo P k)).length = c := by
  rw [rest_wo, List.length_erase_of_mem h, hc]; rfl

section
variable {α : Type} (dist : α → α → Int) (l : Nat → α) (n : Nat)
def R : Nat → (Nat → Bool) → α → Int
  | 0, _, _ => 0
  | c + 1, P, p => (sel (fun k => dist p (l k) + R c (wo P k) (l k)) (rest n P)).2
def O : Nat → (Nat → Bool) → α → List Int
  | 0, _, _ => []
  | c + 1, P, p => (sel (fun k => dist p (l k) + R dist l n c (wo P k) (l k)) (rest n P)).1 ::
      O c (wo P (sel (fun k => dist p (l k) + R dist l n c (wo P k) (l k)) (rest n P)).1.toNat) (l (sel (fun k => dist p (l k) + R dist l n c (wo P k) (l k)) (rest n P)).1.toNat)
def plen : α → List Int → Int
  | _, [] => 0
  | p, k :: o => dist p (l k.toNat) + plen (l k.toNat) o
variable {dist l n}
theorem R_nonneg (hd : ∀ a b, 0 ≤ dist a b) : ∀ (c : Nat) (P : Nat → Bool) (p : α), (rest n P).length = c → 0 ≤ R dist l n c P p
  | 0, _, _, _ => Int.le_refl _
  | c + 1, P, p, h => by
    rcases sel_spec (fun k => dist p (l k) + R dist l n c (wo P k) (l k)) (rest n P) with ⟨h0, _⟩ | ⟨_, _, h2, h3, _⟩
    · rw [h0] at h; simp at h
    · unfold R; rw [h3]
      have := R_nonneg hd c (wo P (sel (fun k => dist p (l k) + R dist l n c (wo P k) (l k)) (rest n P)).1.toNat) (l (sel (fun k => dist p (l k) + R dist l n c (wo P k) (l k)) (rest n P)).1.toNat) (len_wo h2 h)
      have := hd p (l (sel (fun k => dist p (l k) + R dist l n c (wo P k) (l k)) (rest n P)).1.toNat)
      omega
theorem R_le : ∀ (c : Nat) (P : Nat → Bool) (p : α) (o : List Int), (rest n P).length = c → (o.map Int.toNat).Perm (rest n P) → R dist l n c P p ≤ plen dist l p o
  | 0, P, p, o, h, hp => by
    have : o = [] := by
      have := hp.length_eq; rw [h] at this; simp at this; exact this
    subst this; exact Int.le_refl _
  | c + 1, P, p, [], h, hp => by have := hp.length_eq; rw [h] at this; simp at this
  | c + 1, P, p, k :: o, h, hp => by
    have hk : k.toNat ∈ rest n P := hp.subset (List.mem_cons_self ..)
    have hp2 : (o.map Int.toNat).Perm (rest n (wo P k.toNat)) := by
      rw [rest_wo]
      have := hp.erase k.toNat
      simpa using this
    have ih := R_le c (wo P k.toNat) (l k.toNat) o (len_wo hk h) hp2
    rcases sel_spec (fun k => dist p (l k) + R dist l n c (wo P k) (l k)) (rest n P) with ⟨h0, _⟩ | ⟨_, _, h2, h3, h4⟩
    · rw [h0] at h; simp at h
    · unfold R plen
      have h5 := h4 _ hk
      omega
theorem O_spec : ∀ (c : Nat) (P : Nat → Bool) (p : α), (rest n P).length = c → plen dist l p (O dist l n c P p) = R dist l n c P p ∧ ((O dist l n c P p).map Int.toNat).Perm (rest n P) ∧ ∀ k ∈ O dist l n c P p, 0 ≤ k
  | 0, P, p, h => by
    have : rest n P = [] := List.eq_nil_of_length_eq_zero h
    rw [this]; exact ⟨rfl, List.Perm.refl _, fun k hk => by simp [O] at hk⟩
  | c + 1, P, p, h => by
    rcases sel_spec (fun k => dist p (l k) + R dist l n c (wo P k) (l k)) (rest n P) with ⟨h0, _⟩ | ⟨_, h1, h2, h3, h4⟩
    · rw [h0] at h; simp at h
    · unfold R O plen
      generalize sel (fun k => dist p (l k) + R dist l n c (wo P k) (l k)) (rest n P) = s at *
      obtain ⟨i1, i2, i3⟩ := O_spec c (wo P s.1.toNat) (l s.1.toNat) (len_wo h2 h)
      refine ⟨by rw [i1, h3], ?_, fun k hk => ?_⟩
      · rw [List.map_cons]
        rw [rest_wo] at i2
        exact (List.Perm.cons _ i2).trans (List.perm_cons_erase h2).symm
      · rcases List.mem_cons.1 hk with hk | hk
        · rw [hk]; exact h1
        · exact i3 k hk
/-- the search that prunes: one level -/
theorem prune (v : Nat → Int) (w : Nat → List Int) (sum : Int) (hs : 0 ≤ sum) (st0 : List Int × Int) (L : List Nat) (hv : ∀ k ∈ L, 0 ≤ v k) :
    L.foldl (fun st k => if 0 ≤ st.2 ∧ st.2 ≤ sum + v k then st else (w k, sum + v k)) st0 = if L = [] ∨ (0 ≤ st0.2 ∧ st0.2 ≤ sum + (sel v L).2) then st0 else (w (sel v L).1.toNat, sum + (sel v L).2) := by
  have key : ∀ (M L : List Nat) (st : List Int × Int), (∀ k ∈ L ++ M, 0 ≤ v k) → st = (if L = [] ∨ (0 ≤ st0.2 ∧ st0.2 ≤ sum + (sel v L).2) then st0 else (w (sel v L).1.toNat, sum + (sel v L).2)) →
      M.foldl (fun st k => if 0 ≤ st.2 ∧ st.2 ≤ sum + v k then st else (w k, sum + v k)) st = if L ++ M = [] ∨ (0 ≤ st0.2 ∧ st0.2 ≤ sum + (sel v (L ++ M)).2) then st0 else (w (sel v (L ++ M)).1.toNat, sum + (sel v (L ++ M)).2) := by
    intro M
    induction M with
    | nil => intro L st _ h; simpa using h
    | cons k M ih =>
      intro L st hv h
      rw [List.foldl_cons]
      have := ih (L ++ [k]) (if 0 ≤ st.2 ∧ st.2 ≤ sum + v k then st else (w k, sum + v k)) (by simpa using hv) ?_
      · rw [this]; simp only [List.append_assoc, List.singleton_append]
      · rw [sel_snoc]
        have hne : ¬ (L ++ [k] = []) := by simp
        have hk := hv k (by simp)
        rcases sel_spec v L with ⟨rfl, hsl⟩ | ⟨hL, h1, h2, h3, h4⟩
        · rw [if_pos (.inl rfl)] at h; subst h
          have hg : go v (sel v []) k = ((k : Int), v k) := by rw [hsl]; unfold go; rw [if_pos (.inl (by decide))]
          rw [hg]
          simp only [List.nil_append, List.cons_ne_self, false_or, Int.toNat_natCast]
        · have h5 := hv (sel v L).1.toNat (List.mem_append_left _ h2)
          rw [← h3] at h5
          simp only [hL, false_or] at h
          simp only [hne, false_or]
          generalize sel v L = s at *
          by_cases h6 : v k < s.2
          · have hg : go v s k = ((k : Int), v k) := by unfold go; rw [if_pos (.inr h6)]
            rw [hg]
            by_cases h7 : 0 ≤ st0.2 ∧ st0.2 ≤ sum + s.2
            · rw [if_pos h7] at h; subst h; simp only [Int.toNat_natCast]
            · rw [if_neg h7] at h; subst h
              rw [if_neg (fun hh => by have := hh.2; simp only at this; omega), if_neg (fun hh => by have := hh.2; have := hh.1; simp only at *; omega)]
              simp only [Int.toNat_natCast]
          · have hg : go v s k = s := by unfold go; rw [if_neg (by omega)]
            rw [hg]
            by_cases h7 : 0 ≤ st0.2 ∧ st0.2 ≤ sum + s.2
            · rw [if_pos h7] at h ⊢; subst h; rw [if_pos ⟨h7.1, by omega⟩]
            · rw [if_neg h7] at h ⊢; subst h; rw [if_pos ⟨by simp only; omega, by simp only; omega⟩]
  have := key L [] st0 (by simpa using hv) (by rw [if_pos (.inl rfl)])
  simpa using this
end
end Short

/-! ### sets as bits -/
def clr (s k : Nat) : Nat := if s.testBit k then s ^^^ 2 ^ k else s
theorem shl1F : ∀ k : Fin 11, shlI .i64 1 (k.val : Int) = ((2 ^ k.val : Nat) : Int) := by decide +kernel
theorem bitF : ∀ s : Fin 1024, ∀ k : Fin 10, (andI .i64 (shrI .i64 (s.val : Int) (k.val : Int)) 1 == 1) = s.val.testBit k.val := by decide +kernel
theorem clrF : ∀ s : Fin 1024, ∀ k : Fin 10, andNotI .i64 (s.val : Int) (((2 ^ k.val : Nat) : Int)) = (clr s.val k.val : Int) := by decide +kernel
theorem clr_ltF : ∀ s : Fin 1024, ∀ k : Fin 10, s.val.testBit k.val = true → clr s.val k.val < s.val := by decide +kernel
theorem shl1 {k : Nat} (h : k ≤ 10) : shlI .i64 1 (k : Int) = ((2 ^ k : Nat) : Int) := shl1F ⟨k, by omega⟩
theorem bitq {s k : Nat} (hs : s < 1024) (hk : k < 10) : (andI .i64 (shrI .i64 (s : Int) (k : Int)) 1 == 1) = s.testBit k := bitF ⟨s, hs⟩ ⟨k, hk⟩
theorem clrq {s k : Nat} (hs : s < 1024) (hk : k < 10) : andNotI .i64 (s : Int) (shlI .i64 1 (k : Int)) = (clr s k : Int) := by rw [shl1 (by omega)]; exact clrF ⟨s, hs⟩ ⟨k, hk⟩
theorem clr_lt {s k : Nat} (hs : s < 1024) (hk : k < 10) (h : s.testBit k = true) : clr s k < s := clr_ltF ⟨s, hs⟩ ⟨k, hk⟩ h
def PB (s : Nat) : Nat → Bool := fun i => s.testBit i
theorem wo_PB {s k : Nat} (h : s.testBit k = true) : Short.wo (PB s) k = PB (clr s k) := by
  funext i
  unfold Short.wo PB clr
  rw [if_pos h, Nat.testBit_xor, Nat.testBit_two_pow]
  by_cases hi : k = i
  · subst hi; simp [h]
  · have : (i != k) = true := by simpa using fun e => hi e.symm
    simp [hi, this]
def cnt (n s : Nat) : Nat := (Short.rest n (PB s)).length
theorem mem_restB {n s k : Nat} : k ∈ Short.rest n (PB s) ↔ k < n ∧ s.testBit k = true := Short.mem_rest
theorem cnt_clr {n s k : Nat} (hk : k < n) (h : s.testBit k = true) : cnt n (clr s k) + 1 = cnt n s := by
  have hm : k ∈ Short.rest n (PB s) := mem_restB.2 ⟨hk, h⟩
  have hne : cnt n s ≠ 0 := fun e => by have := List.eq_nil_of_length_eq_zero e; rw [this] at hm; simp at hm
  obtain ⟨c, hc⟩ : ∃ c, cnt n s = c + 1 := ⟨cnt n s - 1, by omega⟩
  have := Short.len_wo hm hc
  rw [wo_PB h] at this
  unfold cnt at *; omega
theorem rest_ne {n s : Nat} (hs : s ≠ 0) (hlt : s < 2 ^ n) : Short.rest n (PB s) ≠ [] := by
  obtain ⟨i, hi⟩ := Nat.exists_testBit_of_ne_zero hs
  have h1 := Nat.ge_two_pow_of_testBit hi
  have h2 : i < n := (Nat.pow_lt_pow_iff_right (by decide : 1 < 2)).1 (Nat.lt_of_le_of_lt h1 hlt)
  intro e
  have := mem_restB.2 ⟨h2, hi⟩
  rw [e] at this; simp at this
theorem cnt_zero (n : Nat) : cnt n 0 = 0 := by
  unfold cnt Short.rest PB
  simp
theorem cnt_le (n s : Nat) : cnt n s ≤ n := by
  unfold cnt Short.rest
  have := List.length_filter_le (PB s) (List.range n)
  simpa using this

/-! ### ways through sets of points -/
def nfar (p q : Point) : Int := max 0 (min 2000000 (far p q))
theorem nfar_eq {p q : Point} (hp : Pt p) (hq : Pt q) : far p q = nfar p q := by have := far_bound hp hq; unfold nfar; omega
theorem nfar_bound (p q : Point) : 0 ≤ nfar p q ∧ nfar p q ≤ 2000000 := by unfold nfar; omega
def pt (l : List Point) (k : Nat) : Point := l.getD k default
theorem pt_ok {l : List Point} (hl : ∀ q ∈ l, Pt q) (k : Nat) : Pt (pt l k) := by
  unfold pt
  rcases Nat.lt_or_ge k l.length with hk | hk
  · rw [List.getD_eq_getElem?_getD, List.getElem?_eq_getElem hk]; exact hl _ (List.getElem_mem hk)
  · rw [List.getD_eq_getElem?_getD, List.getElem?_eq_none hk]
    show Pt ⟨default, default⟩
    unfold Pt
    show -1000000 ≤ (0 : Int) ∧ (0 : Int) ≤ 1000000 ∧ -1000000 ≤ (0 : Int) ∧ (0 : Int) ≤ 1000000
    decide
theorem R_bound (l : List Point) : ∀ (c : Nat) (P : Nat → Bool) (p : Point), (Short.rest l.length P).length = c → 0 ≤ Short.R nfar (pt l) l.length c P p ∧ Short.R nfar (pt l) l.length c P p ≤ 2000000 * c
  | 0, _, _, _ => by simp [Short.R]
  | c + 1, P, p, h => by
    refine ⟨Short.R_nonneg (fun a b => (nfar_bound a b).1) _ _ _ h, ?_⟩
    unfold Short.R
    rcases Short.sel_spec (fun k => nfar p (pt l k) + Short.R nfar (pt l) l.length c (Short.wo P k) (pt l k)) (Short.rest l.length P) with ⟨h0, _⟩ | ⟨_, _, h2, h3, _⟩
    · rw [h0] at h; simp at h
    · rw [h3]
      have h4 := (R_bound l c _ (pt l (Short.sel (fun k => nfar p (pt l k) + Short.R nfar (pt l) l.length c (Short.wo P k) (pt l k)) (Short.rest l.length P)).1.toNat) (Short.len_wo h2 h)).2
      have h5 := (nfar_bound p (pt l (Short.sel (fun k => nfar p (pt l k) + Short.R nfar (pt l) l.length c (Short.wo P k) (pt l k)) (Short.rest l.length P)).1.toNat)).2
      rw [show ((c + 1 : Nat) : Int) = (c : Int) + 1 by omega]
      omega
def RS (l : List Point) (s : Nat) (p : Point) : Int := Short.R nfar (pt l) l.length (cnt l.length s) (PB s) p
def OS (l : List Point) (s : Nat) (p : Point) : List Int := Short.O nfar (pt l) l.length (cnt l.length s) (PB s) p
def vS (l : List Point) (s : Nat) (p : Point) (k : Nat) : Int := nfar p (pt l k) + RS l (clr s k) (pt l k)
theorem RS_bound (l : List Point) (s : Nat) (p : Point) : 0 ≤ RS l s p ∧ RS l s p ≤ 2000000 * l.length := by
  have := R_bound l (cnt l.length s) (PB s) p rfl
  have h2 := cnt_le l.length s
  unfold RS; omega
theorem RS_zero (l : List Point) (p : Point) : RS l 0 p = 0 := by unfold RS; rw [cnt_zero]; rfl
theorem OS_zero (l : List Point) (p : Point) : OS l 0 p = [] := by unfold OS; rw [cnt_zero]; rfl
theorem RS_sel {l : List Point} {s : Nat} (hs : s ≠ 0) (hlt : s < 2 ^ l.length) (p : Point) :
    (Short.sel (fun k => nfar p (pt l k) + Short.R nfar (pt l) l.length (cnt l.length s - 1) (Short.wo (PB s) k) (pt l k)) (Short.rest l.length (PB s))) = Short.sel (vS l s p) (Short.rest l.length (PB s)) := by
  refine Short.sel_congr (fun k hk => ?_)
  obtain ⟨h1, h2⟩ := mem_restB.1 hk
  have := cnt_clr h1 h2
  unfold vS RS
  rw [wo_PB h2, show cnt l.length s - 1 = cnt l.length (clr s k) by omega]
theorem cnt_pos {l : List Point} {s : Nat} (hs : s ≠ 0) (hlt : s < 2 ^ l.length) : cnt l.length s = (cnt l.length s - 1) + 1 := by
  have : cnt l.length s ≠ 0 := fun e => rest_ne hs hlt (List.eq_nil_of_length_eq_zero e)
  omega
theorem RS_eq {l : List Point} {s : Nat} (hs : s ≠ 0) (hlt : s < 2 ^ l.length) (p : Point) : RS l s p = (Short.sel (vS l s p) (Short.rest l.length (PB s))).2 := by
  rw [← RS_sel hs hlt p]
  unfold RS
  rw [cnt_pos hs hlt]
  rfl
theorem OS_eq {l : List Point} {s : Nat} (hs : s ≠ 0) (hlt : s < 2 ^ l.length) (p : Point) : OS l s p = (Short.sel (vS l s p) (Short.rest l.length (PB s))).1 ::
    OS l (clr s (Short.sel (vS l s p) (Short.rest l.length (PB s))).1.toNat) (pt l (Short.sel (vS l s p) (Short.rest l.length (PB s))).1.toNat) := by
  rcases Short.sel_spec (vS l s p) (Short.rest l.length (PB s)) with ⟨h0, _⟩ | ⟨_, h1, h2, h3, h4⟩
  · exact absurd h0 (rest_ne hs hlt)
  · obtain ⟨h5, h6⟩ := mem_restB.1 h2
    have hc := cnt_clr h5 h6
    have e := RS_sel hs hlt p
    have : OS l s p = Short.O nfar (pt l) l.length ((cnt l.length s - 1) + 1) (PB s) p := by unfold OS; rw [← cnt_pos hs hlt]
    rw [this]
    unfold Short.O
    rw [e]
    unfold OS
    rw [wo_PB h6, show cnt l.length s - 1 = cnt l.length (clr s (Short.sel (vS l s p) (Short.rest l.length (PB s))).1.toNat) by omega]
def pre (P : Nat → Bool) (k : Nat) : List Nat := (List.range k).filter P
theorem pre_succ (P : Nat → Bool) (k : Nat) : pre P (k + 1) = pre P k ++ (if P k = true then [k] else []) := by
  unfold pre; rw [List.range_succ, List.filter_append]; congr 1
  cases h : P k <;> simp [h]
/-- one more is looked at -/
theorem go_step {v : Nat → Int} {L : List Nat} {k : Nat} {s : Int × Int} (hs : s = Short.sel v L) {K : Int × Int → Prop} (h : K (Short.sel v (L ++ [k]))) : if s.1 < 0 ∨ v k < s.2 then K ((k : Int), v k) else K s := by
  rw [Short.sel_snoc, ← hs] at h
  unfold Short.go at h
  split <;> rename_i e
  · rw [if_pos e] at h; exact h
  · rw [if_neg e] at h; exact h
theorem sel_neg {v : Nat → Int} {L : List Nat} (hv : ∀ k ∈ L, 0 ≤ v k) : ((Short.sel v L).1 < 0 ↔ (Short.sel v L).2 < 0) := by
  rcases Short.sel_spec v L with ⟨_, h⟩ | ⟨_, h1, h2, h3, _⟩
  · simp [h]
  · have := hv _ h2; omega
/-! ### the table -/
def row (l : List Point) (s j : Nat) : List Int := (List.range l.length).map (fun i => if i < j then RS l s (pt l i) else 0)
def rows (l : List Point) (m : Nat) : List (List Int) := (List.range (2 ^ l.length)).map (fun s => if s < m then row l s l.length else [])
theorem row_get {l : List Point} {s j i : Nat} (hi : i < l.length) : (row l s j)[i]? = some (if i < j then RS l s (pt l i) else 0) := by
  unfold row; rw [List.getElem?_map, List.getElem?_range hi]; rfl
theorem rows_get {l : List Point} {m s : Nat} (hs : s < 2 ^ l.length) : (rows l m)[s]? = some (if s < m then row l s l.length else []) := by
  unfold rows; rw [List.getElem?_map, List.getElem?_range hs]; rfl
theorem row_set {l : List Point} {s k : Nat} (hk : k < l.length) : (row l s k).set k (RS l s (pt l k)) = row l s (k + 1) := by
  refine List.ext_getElem? (fun i => ?_)
  have hlen : (row l s k).length = l.length := by simp [row]
  rcases Nat.lt_or_ge i l.length with hi | hi
  · rw [List.getElem?_set, row_get hi, row_get hi]
    by_cases h : k = i
    · subst h; rw [if_pos rfl, if_pos (by omega), if_pos (by omega)]
    · rw [if_neg h]; congr 1
      by_cases h2 : i < k
      · rw [if_pos h2, if_pos (by omega)]
      · rw [if_neg h2, if_neg (by omega)]
  · rw [List.getElem?_eq_none (by simp [row]; omega), List.getElem?_eq_none (by simp [row]; omega)]
theorem rows_set {l : List Point} {m : Nat} (hm : m < 2 ^ l.length) : (rows l m).set m (row l m l.length) = rows l (m + 1) := by
  refine List.ext_getElem? (fun i => ?_)
  have hlen : (rows l m).length = 2 ^ l.length := by simp [rows]
  rcases Nat.lt_or_ge i (2 ^ l.length) with hi | hi
  · rw [List.getElem?_set, rows_get hi, rows_get hi]
    by_cases h : m = i
    · subst h; rw [if_pos rfl, if_pos (by omega), if_pos (by omega)]
    · rw [if_neg h]; congr 1
      by_cases h2 : i < m
      · rw [if_pos h2, if_pos (by omega)]
      · rw [if_neg h2, if_neg (by omega)]
  · rw [List.getElem?_eq_none (by simp [rows]; omega), List.getElem?_eq_none (by simp [rows]; omega)]
theorem rows_zero (l : List Point) : List.replicate (2 ^ l.length) ([] : List Int) = rows l 0 := by
  unfold rows
  simp [List.map_const']
theorem row_zero (l : List Point) (s : Nat) : List.replicate l.length (0 : Int) = row l s 0 := by
  unfold row
  simp [List.map_const']
theorem row_of_zero (l : List Point) (j : Nat) : row l 0 j = row l 0 (j + 1) := by
  unfold row
  refine List.map_congr_left (fun i _ => ?_)
  rw [RS_zero]; split <;> split <;> rfl
def fullSet (l : List Point) : Nat := 2 ^ l.length - 1
def shortOut (l : List Point) (fr : Point) : List Int × Int × Int := if pointsFault l fr 10 ≠ 0 then ([], 0, pointsFault l fr 10) else (OS l (fullSet l) fr, RS l (fullSet l) fr, 0)
theorem S_drill_Shortest {l : List Point} {fr : Point} {Q : List Int → Int → Int → Prop} (h : Q (shortOut l fr).1 (shortOut l fr).2.1 (shortOut l fr).2.2) : M_drill_Shortest l fr Q := by
  unfold M_drill_Shortest
  unfold shortOut at h
  refine S_drill_checkPoints (cnd_of (fun e => ?_) (fun e => ?_))
  · rw [if_pos (by simpa using e)] at h; exact h
  have e0 : pointsFault l fr 10 = 0 := by simpa using e
  rw [if_neg (by simpa using e)] at h
  obtain ⟨hfr, hl, hn⟩ := points_ok e0
  have hn' : l.length ≤ 10 := by omega
  have h2 : 2 ^ l.length ≤ 1024 := Nat.le_trans (Nat.pow_le_pow_right (by omega) hn') (by decide)
  have h2p : 0 < 2 ^ l.length := Nat.pow_pos (by decide)
  rw [shl1 hn']
  refine ⟨Int.natCast_nonneg _, ⟨Int.natCast_nonneg _, by omega⟩, ?_⟩
  refine lp_upto (fun m => (rows l m, (m : Int))) (2 ^ l.length) (by rw [Int.toNat_natCast, rows_zero]; rfl) (fun X m hm hX => ?_) (fun X => ?_)
  · unfold M_drill_Shortest_L1
    dsimp only at hX ⊢
    rw [shl1 hn', Int.toNat_natCast, List.length_replicate]
    refine cnd_of (fun _ => ?_) (fun e => ?_)
    · refine ⟨⟨Int.natCast_nonneg _, by omega⟩, idx_nat (rows_get hm) ?_⟩
      rw [Int.toNat_natCast]
      refine forIn0 (fun k s => s = (rows l m).set m (row l m k)) (by rw [row_zero l m]) (fun k x s hx hI next hnx => ?_) (fun s hI => ?_)
      · subst hI
        have hk := lt_of_get hx
        have hxp : x = pt l k := by unfold pt; rw [List.getD_eq_getElem?_getD, hx]; rfl
        have hnext := hnx _ rfl
        unfold M_drill_Shortest_L2
        refine cnd_of (fun e => ?_) (fun e => ?_)
        · have hm0 : m = 0 := by simp at e; omega
          subst hm0
          rw [← row_of_zero] at hnext; exact hnext
        · have hm0 : m ≠ 0 := by simp at e; omega
          have hvn : ∀ k' ∈ pre (PB m) k, 0 ≤ vS l m x k' := fun k' _ => by unfold vS; have := nfar_bound x (pt l k'); have := RS_bound l (clr m k') (pt l k'); omega
          refine forIn0 (fun j n4 => n4 = (Short.sel (vS l m x) (pre (PB m) j)).2) rfl (fun j y n4 hy hI next3 hn3 => ?_) (fun n4 hI => ?_)
          · subst hI
            have hj := lt_of_get hy
            have hyp : y = pt l j := by unfold pt; rw [List.getD_eq_getElem?_getD, hy]; rfl
            have hnext3 := hn3 _ rfl
            rw [pre_succ] at hnext3
            unfold M_drill_Shortest_L3 M_drill_Shortest_k4
            rw [bitq (by omega) (by omega), clrq (by omega) (by omega)]
            refine ⟨Int.natCast_nonneg _, cnd_of (fun eb => ?_) (fun eb => ?_)⟩
            · have hlt := clr_lt (show m < 1024 by omega) (show j < 10 by omega) eb
              rw [show PB m j = true from eb, if_pos rfl] at hnext3
              refine ⟨Int.natCast_nonneg _, idx_nat (x := row l (clr m j) l.length) ?_ (idx_nat (row_get hj) ?_)⟩
              · rw [List.getElem?_set, if_neg (by omega), rows_get (by omega), if_pos hlt]
              · rw [if_pos hj]
                have hb := RS_bound l (clr m j) (pt l j)
                have hf := nfar_bound x (pt l j)
                rw [hyp, nfar_eq (hxp ▸ pt_ok hl k) (pt_ok hl j), w64_id (by omega) (by omega)]
                have hg := go_step (v := vS l m x) (L := pre (PB m) j) (k := j) rfl (K := fun s => next3 s.2) hnext3
                have hneg := sel_neg (v := vS l m x) (L := pre (PB m) j) (fun k' _ => by unfold vS; have := nfar_bound x (pt l k'); have := RS_bound l (clr m k') (pt l k'); omega)
                have hvj : vS l m x j = nfar x (pt l j) + RS l (clr m j) (pt l j) := rfl
                rw [hvj] at hg
                refine cnd_of (fun e1 => cnd_of (fun _ => ?_) (fun e => by cases e)) (fun e1 => cnd_of (fun e2 => ?_) (fun e2 => ?_))
                · rw [if_pos (.inl (hneg.2 (by simpa using e1)))] at hg; exact hg
                · rw [if_pos (.inr (by simpa using e2))] at hg; exact hg
                · rw [if_neg (fun hh => by
                    rcases hh with hh | hh
                    · have := hneg.1 hh; simp at e1; omega
                    · simp at e2; omega)] at hg
                  exact hg
            · rw [show PB m j = false from eb] at hnext3
              simpa using hnext3
          · subst hI
            have hpre : pre (PB m) l.length = Short.rest l.length (PB m) := rfl
            rw [hpre, ← RS_eq hm0 hm x]
            refine idx_nat (x := row l m k) ?_ (idx_nat (row_get hk) ?_)
            · rw [List.getElem?_set, if_pos rfl, if_pos (by simp [rows]; omega)]
            · rw [Int.toNat_natCast, List.set_set, hxp, row_set hk]; exact hnext
      · subst hI
        have hw : w64 ((m : Int) + 1) = ((m + 1 : Nat) : Int) := by rw [w64_id] <;> omega
        rw [rows_set hm, hw]
        exact hX
    · have := of_decide_eq_false e; omega
  · unfold M_drill_Shortest_L1
    dsimp only
    rw [shl1 hn', Int.toNat_natCast, List.length_replicate]
    refine cnd_of (fun e => by simp at e) (fun _ => ⟨Int.natCast_nonneg _, ?_⟩)
    have hfs : w64 (((2 ^ l.length : Nat) : Int) - 1) = ((fullSet l : Nat) : Int) := by unfold fullSet; rw [w64_id] <;> omega
    rw [hfs]
    refine lp_intro (fun s => ∃ t : Nat, s.2.2.2 = (t : Int) ∧ t < 2 ^ l.length ∧ Pt s.2.1 ∧ 0 ≤ s.2.2.1 ∧ s.2.2.1 + RS l t s.2.1 = RS l (fullSet l) fr ∧ s.1 ++ OS l t s.2.1 = OS l (fullSet l) fr ∧ s.1.length + cnt l.length t = cnt l.length (fullSet l)) (fun s => s.2.2.2.toNat)
      ⟨fullSet l, rfl, by unfold fullSet; omega, hfr, Int.le_refl _, by simp, by simp, by simp⟩ (fun X s hI hX => ?_)
    obtain ⟨out, p, sum, set⟩ := s
    obtain ⟨t, rfl, ht, hp, hs0, hR, hO, hlen⟩ := hI
    dsimp only at ht hp hs0 hR hO hlen hX ⊢
    unfold M_drill_Shortest_L4
    refine cnd_of (fun e => ?_) (fun e => ?_)
    · have ht0 : t ≠ 0 := by simp at e; omega
      refine forIn0 (fun j s => s = if pre (PB t) j = [] then (-1, 0) else Short.sel (vS l t p) (pre (PB t) j)) rfl (fun j y s hy hI next5 hn5 => ?_) (fun s hI => ?_)
      · have hj := lt_of_get hy
        have hyp : y = pt l j := by unfold pt; rw [List.getD_eq_getElem?_getD, hy]; rfl
        have hnext5 := hn5 _ rfl
        rw [pre_succ] at hnext5
        unfold M_drill_Shortest_L5 M_drill_Shortest_k7
        rw [bitq (by omega) (by omega), clrq (by omega) (by omega)]
        refine ⟨Int.natCast_nonneg _, cnd_of (fun eb => ?_) (fun eb => ?_)⟩
        · have hlt := clr_lt (show t < 1024 by omega) (show j < 10 by omega) eb
          rw [show PB t j = true from eb, if_pos rfl, if_neg (by simp)] at hnext5
          refine ⟨Int.natCast_nonneg _, idx_nat (rows_get (by omega)) ?_⟩
          rw [if_pos (by omega)]
          refine idx_nat (row_get hj) ?_
          rw [if_pos hj]
          have hb := RS_bound l (clr t j) (pt l j)
          have hf := nfar_bound p (pt l j)
          rw [hyp, nfar_eq hp (pt_ok hl j), w64_id (by omega) (by omega)]
          have hg := go_step (v := vS l t p) (L := pre (PB t) j) (k := j) rfl (K := fun s => next5 s) hnext5
          have hvj : vS l t p j = nfar p (pt l j) + RS l (clr t j) (pt l j) := rfl
          rw [hvj] at hg
          rcases Short.sel_spec (vS l t p) (pre (PB t) j) with ⟨h0, hsel⟩ | ⟨h0, h1, _⟩
          · rw [if_pos h0] at hI; subst hI
            rw [hsel, if_pos (.inl (by decide))] at hg
            refine cnd_of (fun e1 => cnd_of (fun _ => hg) (fun e => by cases e)) (fun e1 => by simp at e1)
          · rw [if_neg h0] at hI; subst hI
            refine cnd_of (fun e1 => cnd_of (fun _ => ?_) (fun e => by cases e)) (fun e1 => cnd_of (fun e2 => ?_) (fun e2 => ?_))
            · rw [if_pos (.inl (by simpa using e1))] at hg; exact hg
            · rw [if_pos (.inr (by simpa using e2))] at hg; exact hg
            · rw [if_neg (by simp at e1 e2; omega)] at hg; exact hg
        · rw [show PB t j = false from eb] at hnext5
          simp only [Bool.false_eq_true, if_false, List.append_nil] at hnext5
          rw [← hI] at hnext5; exact hnext5
      · have hne : pre (PB t) l.length ≠ [] := rest_ne ht0 ht
        rw [if_neg hne] at hI
        have hpre : pre (PB t) l.length = Short.rest l.length (PB t) := rfl
        rw [hpre] at hI hne
        rcases Short.sel_spec (vS l t p) (Short.rest l.length (PB t)) with ⟨h0, _⟩ | ⟨_, h1, h2', h3, h4⟩
        · exact absurd h0 hne
        rw [RS_eq ht0 ht, h3] at hR
        rw [OS_eq ht0 ht] at hO
        generalize Short.sel (vS l t p) (Short.rest l.length (PB t)) = z at *
        subst hI
        obtain ⟨k, hk⟩ : ∃ k : Nat, s.1 = (k : Int) := ⟨s.1.toNat, by omega⟩
        rw [hk] at h2' hR hO ⊢
        simp only [Int.toNat_natCast] at h2' hR hO
        obtain ⟨h5, h6⟩ := mem_restB.1 h2'
        have hc := cnt_clr h5 h6
        have hcl := cnt_le l.length (fullSet l)
        have hbf := RS_bound l (fullSet l) fr
        have hbk := RS_bound l (clr t k) (pt l k)
        have hvk : vS l t p k = nfar p (pt l k) + RS l (clr t k) (pt l k) := rfl
        have hnf := nfar_bound p (pt l k)
        rw [hvk] at hR
        refine idx_nat (x := pt l k) (by unfold pt; rw [List.getD_eq_getElem?_getD, List.getElem?_eq_getElem h5]; rfl) ⟨Int.natCast_nonneg _, room_of (by simp; omega) (by omega), ?_⟩
        rw [clrq (by omega) (by omega), nfar_eq hp (pt_ok hl k), w64_id (by omega) (by omega)]
        have hlt := clr_lt (show t < 1024 by omega) (show k < 10 by omega) h6
        refine hX (out ++ [(k : Int)], pt l k, sum + nfar p (pt l k), ((clr t k : Nat) : Int)) ⟨clr t k, rfl, by omega, pt_ok hl k, by dsimp only; omega, by dsimp only; omega, by dsimp only; rw [List.append_assoc]; exact hO, by simp; omega⟩ (by simp; omega)
    · have ht0 : t = 0 := by simp at e; omega
      subst ht0
      rw [RS_zero] at hR
      rw [OS_zero, List.append_nil] at hO
      rw [hO, show sum = RS l (fullSet l) fr by omega]; exact h
end Go.Proofs.Ytmopdabkfklefaa
