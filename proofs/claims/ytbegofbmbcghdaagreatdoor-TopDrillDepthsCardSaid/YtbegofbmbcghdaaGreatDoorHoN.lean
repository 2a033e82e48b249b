/- Chapter texts of ours, as far as the claim needs them. -/
import Derived.Test.YtbegofbmbcghdaaGreatDoorHoE1
import Derived.Test.YtbegofbmbcghdaaGreatDoorStackB
namespace Go.Proofs.YtbegofbmbcghdaaGreatDoor
open Go Go.RowKit
set_option linter.unusedVariables false
set_option linter.unusedSectionVars false
set_option linter.unusedSimpArgs false
def G6 (p : Point) : Bool := within p.X (-1000000) 1000000 && within p.Y (-1000000) 1000000
theorem Gm {p : Point} {Q : Bool → Prop} (h : Q (G6 p)) : qj p Q := by
  unfold qj mX
  unfold G6 at h
  refine eU (fun e => ?_) (fun e => ?_) <;> rw [e] at h <;> simpa using h
def GV (h : iM) : Bool := !(G6 h.At) || !(within h.Size 1 10000) || !(within h.Depth 1 100000)
def pW (l : List iM) : Int := if (l.length : Int) > 2000 then 2 else if l.any GV = true then 1 else 0
theorem Eh {l : List iM} {Q : Int → Prop} (h : Q (pW l)) : pU l Q := by
  unfold pU
  unfold pW at h
  refine eU (fun e => ?_) (fun e => ?_)
  · rw [if_pos (by simpa using e)] at h; exact h
  · rw [if_neg (by simpa using e)] at h
    refine Ak GV (fun k x next h => ?_) l 0 (A := Q 1) ?_
    · unfold mG jZ
      refine Gm ?_
      unfold GV at h
      cases h1 : G6 x.At <;> cases h2 : within x.Size 1 10000 <;> simp [h1, h2] at h ⊢ <;> first | exact h | (simp [zG]; exact h)
    · split <;> rename_i e2
      · rw [if_pos e2] at h; exact h
      · rw [if_neg e2] at h; exact h
theorem OI {l : List iM} (h : pW l = 0) : l.length ≤ 2000 := by
  unfold pW at h; split at h <;> omega
def AP (t : List Bit) (k : Nat) (x : Bit) : Int :=
  if isWord x.Name = false then 5 else if within x.Size 1 10000 = false ∨ within x.Life 1 2000 = false ∨ within x.Stack 0 1000 = false then 1
  else if 0 < k ∧ (gI x.Name (t.getD (k - 1) default).Name || x.Name == (t.getD (k - 1) default).Name) = true then 8 else 0
def qf (t : List Bit) : Int := if (t.length : Int) > 100 then 2 else iU (AP t) t 0
theorem Ic {t : List Bit} {Q : Int → Prop} {i : Nat} {x : Bit} {next : Prop} (hl : t.length ≤ 100) (hx : t[i]? = some x)
    (h : (AP t i x ≠ 0 → Q (AP t i x)) ∧ (AP t i x = 0 → next)) :
    cnd (!(isWord x.Name)) (Q 5) (cnd (!(within x.Size 1 10000)) (iJ t Q i x next true) (cnd (!(within x.Life 1 2000)) (iJ t Q i x next true) (iJ t Q i x next (!(within x.Stack 0 1000))))) := by
  unfold iJ lZ
  unfold AP at h
  have hi := TL hx
  cases hw : isWord x.Name
  · simp only [hw, if_true] at h; simpa using h.1 (by decide)
  · cases h1 : within x.Size 1 10000
    · simp only [hw, h1, true_or, if_true, Bool.true_eq_false, if_false] at h; simpa using h.1 (by decide)
    · cases h2 : within x.Life 1 2000
      · simp only [hw, h2, true_or, or_true, if_true, Bool.true_eq_false, if_false] at h; simpa using h.1 (by decide)
      · cases h3 : within x.Stack 0 1000
        · simp only [hw, h3, or_true, if_true, Bool.true_eq_false, if_false] at h; simpa using h.1 (by decide)
        · simp only [hw, h1, h2, h3, or_self, Bool.true_eq_false, if_false] at h
          simp only [Bool.not_true, jI]
          refine eU (fun e => ?_) (fun e => ?_)
          · have hk : 0 < i := by simpa using e
            have hw' : w64 ((i : Int) - 1) = ((i - 1 : Nat) : Int) := by rw [gV] <;> omega
            rw [hw']
            refine gW (x := t.getD (i - 1) default) (by rw [List.getD_eq_getElem?_getD, List.getElem?_eq_getElem (by omega)]; rfl) ?_
            generalize (gI x.Name (t.getD (i - 1) default).Name || x.Name == (t.getD (i - 1) default).Name) = b at h ⊢
            cases b
            · simp only [Bool.false_eq_true, and_false, if_false, jI] at h ⊢; exact h.2 trivial
            · simp only [hk, and_true, if_true, rD] at h ⊢; exact h.1 (by decide)
          · have hk : ¬ 0 < i := by simpa using e
            simp only [hk, false_and, if_false, jI] at h ⊢
            exact h.2 trivial
theorem Eb {t : List Bit} (ht : Fits.fits t) {Q : Int → Prop} (h : Q (qf t)) : pJ t Q := by
  unfold pJ
  unfold qf at h
  refine eU (fun e => ?_) (fun e => ?_)
  · rw [if_pos (by simpa using e)] at h; exact h
  · rw [if_neg (by simpa using e)] at h
    refine AA (AP t) (fun _ => ()) rfl (A := Q) (fun i x next hx hf hA => ?_) (fun i x next hx hf _ hn => ?_) (fun _ => h) (fun h0 => by rw [h0] at h; exact h)
    · unfold jY
      exact jM (ht x (List.mem_of_getElem? hx)).1 (Ic (by simp at e; omega) hx ⟨fun _ => hA, fun e => absurd e hf⟩)
    · unfold jY
      exact jM (ht x (List.mem_of_getElem? hx)).1 (Ic (by simp at e; omega) hx ⟨fun e => absurd hf e, fun _ => hn⟩)
def DW (b : Bit) (size : Int) : Int := max (b.Size - size) (size - b.Size)
def Oh (t : List Bit) (size near best : Int) (x : Bit) : Bool := decide (DW x size ≤ near) && (decide (best < 0) || (decide (DW x size < DW (t.getD best.toNat default) size) || (decide (DW x size = DW (t.getD best.toNat default) size) && decide (x.Size > (t.getD best.toNat default).Size))))
def zS (t : List Bit) (size near : Int) : Nat → Int
  | 0 => -1
  | k + 1 => if Oh t size near (zS t size near k) (t.getD k default) = true then (k : Int) else zS t size near k
theorem AQ (t : List Bit) (size near : Int) : ∀ k, -1 ≤ zS t size near k ∧ zS t size near k < k
  | 0 => by simp [zS]
  | k + 1 => by have := AQ t size near k; rw [zS]; split <;> omega
theorem MO {b : Bit} {size : Int} (hb : 1 ≤ b.Size ∧ b.Size ≤ 10000) (hs : 1 ≤ size ∧ size ≤ 10000) : tY b size = DW b size := by
  unfold tY DW
  rw [gV (by omega) (by omega), gV (by omega) (by omega)]
theorem PU (a b c d : Int) : uV [uP a b, uP c d] < 0 ↔ a < b ∨ (a = b ∧ c < d) := by
  unfold uV uP
  rcases Int.lt_trichotomy a b with h | h | h
  · rw [if_pos h]; simp; omega
  · rw [if_neg (by omega), if_neg (by omega)]
    rcases Int.lt_trichotomy c d with h2 | h2 | h2
    · rw [if_pos h2]; simp; omega
    · rw [if_neg (by omega), if_neg (by omega)]; simp; omega
    · rw [if_neg (by omega), if_pos h2]; simp; omega
  · rw [if_neg (by omega), if_pos h]; simp; omega
def NS (t : List Bit) : Prop := ∀ x ∈ t, 1 ≤ x.Size ∧ x.Size ≤ 10000
theorem O1 {t : List Bit} (ht : NS t) {i : Nat} (h : i < t.length) : 1 ≤ (t.getD i default).Size ∧ (t.getD i default).Size ≤ 10000 := by
  rw [tZ (List.getElem?_eq_getElem h)]; exact ht _ (List.getElem_mem h)
theorem Gt {t : List Bit} {size near : Int} (ht : NS t) (hs : 1 ≤ size ∧ size ≤ 10000) {Q : Int → Prop} (h : Q (zS t size near t.length)) : sV t size near Q := by
  unfold sV
  refine iQ (fun k n => n = zS t size near k) rfl (fun k x n hx hI next hn => ?_) (fun n hI => by subst hI; exact h)
  have hX := hn _ rfl
  have hk := TL hx
  have hxs := ht _ (List.mem_of_getElem? hx)
  have hr := AQ t size near k
  rw [zS, tZ hx, ← hI] at hX
  rw [← hI] at hr
  unfold Oh at hX
  unfold pG mV
  rw [MO hxs hs]
  refine eU (fun e => eU (fun e2 => ?_) (fun e2 => ?_)) (fun e => ?_)
  · rw [e, e2] at hX; simpa using hX
  · refine Aa (by simp at e2; omega) (by omega) ?_
    rw [MO (O1 ht (by omega)) hs]
    rw [e, e2] at hX
    refine eU (fun e3 => ?_) (fun e3 => ?_)
    · rw [decide_eq_true_eq, PU] at e3
      rw [if_pos (by simpa using e3)] at hX; exact hX
    · rw [decide_eq_false_iff_not, PU] at e3
      rw [if_neg (by simpa using e3)] at hX; exact hX
  · rw [e] at hX; simpa using hX
def uU (t : List Bit) (near : Int) (h : iM) : Int := zS t h.Size near t.length
theorem BO (t : List Bit) (near : Int) (h : iM) : -1 ≤ uU t near h ∧ uU t near h < t.length := AQ t h.Size near t.length
def CQ (t : List Bit) (l : List iM) (near : Int) (k b : Nat) : List iM := (l.take k).filter (fun h => decide (uU t near h = (b : Int)))
def IY (t : List Bit) (l : List iM) (near : Int) (k : Nat) : List (List iM) := (List.range t.length).map (CQ t l near k)
def wJ (t : List Bit) (l : List iM) (near : Int) : Nat → List Int
  | 0 => []
  | k + 1 => wJ t l near k ++ (if uU t near (l.getD k default) < 0 then [(k : Int)] else [])
theorem DZ (t : List Bit) (l : List iM) (near : Int) : ∀ k, (wJ t l near k).length ≤ k
  | 0 => by simp [wJ]
  | k + 1 => by have := DZ t l near k; simp only [wJ, List.length_append]; split <;> simp <;> omega
theorem Qp (t : List Bit) (l : List iM) (near : Int) (k b : Nat) : (CQ t l near k b).length ≤ k := by
  unfold CQ
  refine Nat.le_trans (List.length_filter_le _ _) ?_
  rw [List.length_take]; omega
theorem JM {t : List Bit} {l : List iM} {near : Int} {k : Nat} {x : iM} (hx : l[k]? = some x) (b : Nat) : CQ t l near (k + 1) b = CQ t l near k b ++ (if uU t near x = (b : Int) then [x] else []) := by
  unfold CQ
  rw [List.take_add_one, hx, List.filter_append]
  congr 1
  simp only [Option.toList_some, List.filter_cons, List.filter_nil, decide_eq_true_eq]
theorem BI {t : List Bit} {l : List iM} {near : Int} {k b : Nat} (hb : b < t.length) : (IY t l near k)[b]? = some (CQ t l near k b) := by
  unfold IY; rw [List.getElem?_map, List.getElem?_range hb]; rfl
theorem Aj (t : List Bit) (l : List iM) (near : Int) (k : Nat) : (IY t l near k).length = t.length := by simp [IY]
theorem OQ (t : List Bit) (l : List iM) (near : Int) : List.replicate t.length ([] : List iM) = IY t l near 0 := by
  refine List.ext_getElem? (fun j => ?_)
  by_cases hj : j < t.length
  · rw [BI hj, List.getElem?_replicate, if_pos hj]; simp [CQ]
  · rw [List.getElem?_eq_none (by simp; omega), List.getElem?_eq_none (by rw [Aj]; omega)]
theorem OJ {t : List Bit} {l : List iM} {near : Int} {k : Nat} {x : iM} (hx : l[k]? = some x) (hn : uU t near x < 0) : IY t l near (k + 1) = IY t l near k := by
  unfold IY
  refine List.map_congr_left (fun b _ => ?_)
  rw [JM hx, if_neg (by omega), List.append_nil]
theorem OT {t : List Bit} {l : List iM} {near : Int} {k : Nat} {x : iM} (hx : l[k]? = some x) (hn : ¬ uU t near x < 0) : (IY t l near k).set (uU t near x).toNat (CQ t l near k (uU t near x).toNat ++ [x]) = IY t l near (k + 1) := by
  have hr := BO t near x
  refine List.ext_getElem? (fun j => ?_)
  rw [List.getElem?_set, Aj]
  by_cases hj : j < t.length
  · rw [BI hj, BI hj, JM hx]
    by_cases he : (uU t near x).toNat = j
    · rw [if_pos he, if_pos (by omega), if_pos (by omega), he]
    · rw [if_neg he, if_neg (by omega), List.append_nil]
  · rw [if_neg (by omega), List.getElem?_eq_none (by rw [Aj]; omega), List.getElem?_eq_none (by rw [Aj]; omega)]
def yC (t : List Bit) (l : List iM) (near : Int) : Nat → List Job
  | 0 => []
  | b + 1 => yC t l near b ++ (if 0 < (CQ t l near l.length b).length then [⟨(t.getD b default).Name, CQ t l near l.length b⟩] else [])
theorem DN (t : List Bit) (l : List iM) (near : Int) : ∀ b, (yC t l near b).length ≤ b
  | 0 => by simp [yC]
  | b + 1 => by have := DN t l near b; simp only [yC, List.length_append]; split <;> simp <;> omega
def lV (t : List Bit) (l : List iM) (near : Int) : Int :=
  if qf t ≠ 0 then qf t else if pW l ≠ 0 then pW l else if within near 0 10000 = false then 1 else 0
theorem NG {l : List iM} (h : pW l = 0) : ∀ x ∈ l, 1 ≤ x.Size ∧ x.Size ≤ 10000 := fun x hx => by
  unfold pW at h
  split at h; · omega
  split at h; · omega
  rename_i h2
  have := List.any_eq_false.1 ((Bool.not_eq_true _).mp h2) x hx
  unfold GV within at this
  simp at this
  omega
theorem Qa {t : List Bit} (h : qf t = 0) : t.length ≤ 100 ∧ True ∧ ∀ x ∈ t, isWord x.Name = true ∧ within x.Size 1 10000 = true := by
  unfold qf at h
  split at h
  · omega
  refine ⟨by omega, trivial, fun x hx => ?_⟩
  obtain ⟨i, hi⟩ := List.getElem?_of_mem hx
  have := xY h i x hi
  unfold AP at this
  cases a : isWord x.Name <;> cases b : within x.Size 1 10000 <;> simp [a, b] at this ⊢
theorem Ol {t : List Bit} (h : qf t = 0) : t.length ≤ 100 ∧ NS t := by
  obtain ⟨h1, _, h3⟩ := Qa h
  refine ⟨h1, fun x hx => ?_⟩
  have := (h3 x hx).2
  unfold within at this
  simp at this
  exact this
theorem HY {t : List Bit} {l : List iM} {near : Int} (ht : Fits.fits t) {Q : List Job → List Int → Int → Prop} (h : if lV t l near = 0 then Q (yC t l near t.length) (wJ t l near l.length) 0 else Q [] [] (lV t l near)) : qW t l near Q := by
  unfold qW
  refine Eb ht (eU (fun e => ?_) (fun e => ?_))
  · have e : qf t ≠ 0 := by simpa using e
    rw [show lV t l near = qf t by unfold lV; rw [if_pos e], if_neg e] at h; exact h
  have e : qf t = 0 := by simpa using e
  refine Eh (eU (fun e2 => ?_) (fun e2 => ?_))
  · have e2 : pW l ≠ 0 := by simpa using e2
    rw [show lV t l near = pW l by unfold lV; rw [if_neg (fun hh => hh e), if_pos e2], if_neg e2] at h; exact h
  have e2 : pW l = 0 := by simpa using e2
  refine eU (fun e3 => ?_) (fun e3 => ?_)
  · rw [show lV t l near = 1 by unfold lV; rw [if_neg (fun hh => hh e), if_neg (fun hh => hh e2), if_pos (by simpa using e3)], if_neg (by decide)] at h; exact h
  rw [show lV t l near = 0 by unfold lV; rw [if_neg (fun hh => hh e), if_neg (fun hh => hh e2), if_neg (by simpa using e3)], if_pos rfl] at h
  obtain ⟨htl, hb⟩ := Ol e
  have hll := OI e2
  have hsz := NG e2
  refine ⟨⟨by omega, by omega⟩, ?_⟩
  refine iQ (fun k (s : List Int × List (List iM)) => s.1 = wJ t l near k ∧ s.2 = IY t l near k) ⟨rfl, OQ t l near⟩ (fun k x s hx hI next hn => ?_) (fun s hI => ?_)
  · obtain ⟨s1, s2⟩ := s
    obtain ⟨h1, h2⟩ := hI
    simp only at h1 h2
    subst h1; subst h2
    have hk := TL hx
    unfold qK
    refine Gt hb (hsz x (List.mem_of_getElem? hx)) ?_
    have hno := DZ t l near k
    have hr := BO t near x
    refine eU (fun e4 => ?_) (fun e4 => ?_)
    · have e4 : uU t near x < 0 := of_decide_eq_true e4
      refine ⟨lX (by simp only [List.length_append, List.length_singleton]; omega) (by omega), hn _ ⟨?_, (OJ hx e4).symm⟩⟩
      rw [wJ, tZ hx, if_pos e4]
    · have e4 : ¬ uU t near x < 0 := of_decide_eq_false e4
      have hba := Qp t l near k (uU t near x).toNat
      refine Nr (x := CQ t l near k (uU t near x).toNat) (by have := hr.1; show 0 ≤ uU t near x; omega) (BI (by show (uU t near x).toNat < t.length; omega)) ⟨lX (by simp only [List.length_append, List.length_singleton]; omega) (by omega), hn _ ⟨?_, OT hx e4⟩⟩
      rw [wJ, tZ hx, if_neg e4, List.append_nil]
  · obtain ⟨s1, s2⟩ := s
    obtain ⟨h1, h2⟩ := hI
    simp only at h1 h2
    subst h1; subst h2
    refine iQ (fun b acc => acc = yC t l near b) rfl (fun b x acc hx hI next hn => ?_) (fun acc hI => by subst hI; rw [Aj]; exact h)
    have hX := hn _ rfl
    have hb := TL hx
    rw [Aj] at hb
    rw [BI hb] at hx
    injection hx with hx
    subst hx
    rw [yC, ← hI] at hX
    have hjl := DN t l near b
    rw [← hI] at hjl
    unfold nS
    refine eU (fun e5 => ?_) (fun e5 => ?_)
    · rw [if_pos (by simpa using e5)] at hX
      refine Aa (by omega) (by omega) ⟨lX (by simp only [List.length_append, List.length_singleton]; omega) (by omega), ?_⟩
      rw [Int.toNat_natCast]; exact hX
    · rw [if_neg (by simpa using e5), List.append_nil] at hX; exact hX
theorem IX {α : Type} (f : α → Int) (l : List α) : ∀ n : Nat, ((List.range n).flatMap (fun (b : Nat) => l.filter (fun h => decide (f h = (b : Int)))) ++ l.filter (fun h => !(decide (0 ≤ f h ∧ f h < (n : Int))))).Perm l
  | 0 => by
    rw [List.range_zero, List.flatMap_nil, List.nil_append, List.filter_eq_self.2 (fun a _ => by simp; omega)]
  | n + 1 => by
    rw [List.range_succ, List.flatMap_append, List.flatMap_cons, List.flatMap_nil, List.append_nil, List.append_assoc]
    refine (List.Perm.append_left _ ?_).trans (IX f l n)
    have h1 := List.filter_append_perm (fun h => decide (f h = (n : Int))) (l.filter (fun h => !(decide (0 ≤ f h ∧ f h < (n : Int)))))
    rw [List.filter_filter, List.filter_filter] at h1
    have e1 : l.filter (fun a => decide (f a = (n : Int)) && !(decide (0 ≤ f a ∧ f a < (n : Int)))) = l.filter (fun h => decide (f h = (n : Int))) := by
      refine List.filter_congr (fun a _ => ?_)
      rw [Bool.eq_iff_iff]; simp; omega
    have e2 : l.filter (fun a => !(decide (f a = (n : Int))) && !(decide (0 ≤ f a ∧ f a < (n : Int)))) = l.filter (fun h => !(decide (0 ≤ f h ∧ f h < ((n + 1 : Nat) : Int)))) := by
      refine List.filter_congr (fun a _ => ?_)
      rw [Bool.eq_iff_iff]; simp; omega
    rw [e1, e2] at h1
    exact h1
def zI (t : List Bit) (l : List iM) (near : Int) (k : Nat) : List iM := (l.take k).filter (fun h => decide (uU t near h < 0))
theorem KU {t : List Bit} {l : List iM} {near : Int} {k : Nat} {x : iM} (hx : l[k]? = some x) : zI t l near (k + 1) = zI t l near k ++ (if uU t near x < 0 then [x] else []) := by
  unfold zI
  rw [List.take_add_one, hx, List.filter_append]
  congr 1
  simp only [Option.toList_some, List.filter_cons, List.filter_nil, decide_eq_true_eq]
theorem Ig (t : List Bit) (l : List iM) (near : Int) : ∀ k, k ≤ l.length → (wJ t l near k).map (fun i => l.getD i.toNat default) = zI t l near k
  | 0, _ => by simp [wJ, zI]
  | k + 1, h => by
    have ih := Ig t l near k (by omega)
    have hx : l[k]? = some (l.getD k default) := by rw [List.getD_eq_getElem?_getD, List.getElem?_eq_getElem (by omega)]; rfl
    rw [wJ, List.map_append, ih, KU hx]
    congr 1
    split <;> simp
theorem IA {t : List Bit} {l : List iM} {near : Int} : ∀ {k : Nat} {i : Int}, i ∈ wJ t l near k → 0 ≤ i ∧ i < k
  | 0, i, h => by simp [wJ] at h
  | k + 1, i, h => by
    rw [wJ, List.mem_append] at h
    rcases h with h | h
    · have := IA h; omega
    · split at h
      · simp at h; omega
      · simp at h
theorem H8 (t : List Bit) (l : List iM) (near : Int) : ∀ n, (yC t l near n).flatMap (·.Holes) = (List.range n).flatMap (CQ t l near l.length)
  | 0 => by simp [yC]
  | n + 1 => by
    rw [yC, List.range_succ, List.flatMap_append, List.flatMap_append, H8 t l near n]
    congr 1
    split
    · simp
    · rename_i hc
      have : CQ t l near l.length n = [] := List.eq_nil_of_length_eq_zero (by omega)
      simp [this]
theorem Qj (t : List Bit) (l : List iM) (near : Int) : ((yC t l near t.length).flatMap (·.Holes) ++ zI t l near l.length).Perm l := by
  rw [H8]
  have h := IX (uU t near) l t.length
  have e1 : (List.range t.length).flatMap (CQ t l near l.length) = (List.range t.length).flatMap (fun (b : Nat) => l.filter (fun h => decide (uU t near h = (b : Int)))) := by
    unfold CQ; rw [List.take_length]
  have e2 : zI t l near l.length = l.filter (fun h => !(decide (0 ≤ uU t near h ∧ uU t near h < (t.length : Int)))) := by
    unfold zI; rw [List.take_length]
    refine List.filter_congr (fun a _ => ?_)
    have := BO t near a
    rw [Bool.eq_iff_iff]; simp; omega
  rw [e1, e2]; exact h
end Go.Proofs.YtbegofbmbcghdaaGreatDoor
