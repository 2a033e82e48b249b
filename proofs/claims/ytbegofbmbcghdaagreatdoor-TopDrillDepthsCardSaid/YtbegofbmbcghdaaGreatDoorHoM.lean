/- Chapter texts of ours, as far as the claim needs them. -/
import Derived.Test.YtbegofbmbcghdaaGreatDoorHoA
import Derived.Test.YtbegofbmbcghdaaGreatDoorStackB
import Derived.Lib.SplitLaws
namespace Go.Proofs.YtbegofbmbcghdaaGreatDoor
open Go Go.RowKit
set_option linter.unusedVariables false
set_option linter.unusedSectionVars false
set_option linter.unusedSimpArgs false
def Bz (s : Str) : Bool := decide (s.length ≤ 200) && (Lib.split s [47]).all isWord
theorem NJ {s x : Str} (hs : s.length ≤ 9223372036854775807) (hx : x ∈ Lib.split s [47]) : Fits.fits x := by
  have := J8 [47] _ s x hx
  show x.length ≤ 9223372036854775807
  omega
theorem Gl {s : Str} (hs : s.length < 4294967281) {Q : List Str → Prop} (h : Q (Lib.split s [47])) : vO s [47] Q := ⟨⟨hs, ⟨47, rfl⟩, rfl, rfl⟩, h⟩
theorem uN {s : Str} {Q : Bool → Prop} (h : Q (Bz s)) : kG s Q := by
  unfold kG
  refine eU (fun e => ?_) (fun e => ?_)
  · have hl : s.length ≤ 200 := by simp at e; omega
    refine Gl (by omega) ?_
    have hp : Bz s = !((Lib.split s [47]).any (fun x => !(isWord x))) := by
      unfold Bz
      rw [decide_eq_true hl, Bool.true_and, List.all_eq_not_any_not]
    have key : ∀ (Qi : Int → Prop) (xs : List Str) (k : Nat), (∀ x ∈ xs, Fits.fits x) → (if xs.any (fun x => !(isWord x)) = true then ∀ i : Nat, Qi i else Qi (-1)) → forIn' (fun k x (s : Unit) next => kF Qi k x (next ())) (fun (_ : Unit) => Qi (-1)) xs k () := by
      intro Qi xs
      induction xs with
      | nil => intro k _ h; exact h
      | cons x r ih =>
        intro k hf h
        show kF Qi k x _
        unfold kF Cf
        refine jM (hf x (List.mem_cons_self ..)) (eU (fun e => ?_) (fun e => ?_))
        · rw [if_pos (by simp only [List.any_cons, e, Bool.true_or])] at h
          exact h k
        · refine ih (k + 1) (fun y hy => hf y (List.mem_cons_of_mem _ hy)) ?_
          simp only [List.any_cons, e, Bool.false_or] at h
          exact h
    refine key _ _ 0 (fun x hx => NJ (by omega) hx) ?_
    rw [hp] at h
    split
    · rename_i e
      rw [e] at h
      intro i
      have hk : decide ((i : Int) ≥ 0) = true := by simp
      show Q (!(decide ((i : Int) ≥ 0)))
      rw [hk]; exact h
    · rename_i e
      rw [Bool.eq_false_iff.2 e] at h
      exact h
  · have hl : decide (s.length ≤ 200) = false := by simp at e; simp; omega
    unfold Bz at h
    rw [hl] at h
    exact h
def zN (b : List Body) (k : Nat) (x : Body) : Int :=
  if isWord x.Typ = false then 5 else if within x.W 1 100000 = false ∨ within x.H 1 100000 = false ∨ within x.Tall 1 100000 = false then 1 else if isWord x.Nozzle = false then 5 else if under Body.Typ b k x = true then 8 else 0
def ul (b : List Body) : Int := if (b.length : Int) > 200 then 2 else iU (zN b) b 0
theorem LP {b : List Body} {Q : Int → Prop} {k : Nat} {x : Body} {next : Prop} (hl : b.length ≤ 200) (hx : b[k]? = some x) (h1 : zN b k x ≠ 0 → Q (zN b k x)) (h0 : zN b k x = 0 → next)
    {W : Str → (Bool → Prop) → Prop} (hW : ∀ {s : Str} (hs : Fits.fits s) {Q : Bool → Prop} (h : Q (isWord s)), W s Q) {k2 k3 : Bool → Prop} (hx1 : Fits.fits x.Typ) (hx2 : Fits.fits x.Nozzle)
    (e2 : ∀ c, k2 c = cnd c (Q 1) (W x.Nozzle fun y2 => cnd (!y2) (Q 5) (cnd (decide ((k : Int) > 0)) (idx b (w64 ((k : Int) - 1)) fun x1 => k3 (gI x.Typ x1.Typ || x.Typ == x1.Typ)) (k3 false)))) (e3 : ∀ c, k3 c = cnd c (Q 8) next) :
    W x.Typ fun y1 => cnd (!y1) (Q 5) (cnd (!(within x.W 1 100000)) (k2 true) (cnd (!(within x.H 1 100000)) (k2 true) (k2 (!(within x.Tall 1 100000))))) := by
  refine hW hx1 ?_
  have hk := TL hx
  unfold zN at h1 h0
  cases a : isWord x.Typ
  · simp only [a, if_true] at h1; simpa using h1 (by decide)
  cases b1 : within x.W 1 100000
  · simp only [a, b1, if_true, Bool.true_eq_false, if_false, true_or] at h1; simp only [e2, Bool.not_true, Bool.not_false, rD, jI]; exact h1 (by decide)
  cases b2 : within x.H 1 100000
  · simp only [a, b1, b2, if_true, Bool.true_eq_false, if_false, true_or, or_true] at h1; simp only [e2, Bool.not_true, Bool.not_false, rD, jI]; exact h1 (by decide)
  cases b3 : within x.Tall 1 100000
  · simp only [a, b1, b2, b3, if_true, Bool.true_eq_false, if_false, or_true] at h1; simp only [e2, Bool.not_true, Bool.not_false, rD, jI]; exact h1 (by decide)
  simp only [e2, Bool.not_true, jI]
  refine hW hx2 ?_
  cases d : isWord x.Nozzle
  · simp only [a, b1, b2, b3, d, if_true, Bool.true_eq_false, if_false, or_self] at h1; simpa using h1 (by decide)
  simp only [Bool.not_true, jI]
  refine nX (key := Body.Typ) (by omega) (by omega) ?_
  rw [e3]
  simp only [a, b1, b2, b3, d, Bool.true_eq_false, if_false, or_self] at h1 h0
  cases hu : under Body.Typ b k x
  · simp only [hu, Bool.false_eq_true, if_false, jI] at h0 ⊢; exact h0 trivial
  · simp only [hu, if_true, rD] at h1 ⊢; exact h1 (by decide)
theorem CU {b : List Body} (hb : Fits.fits b) {Q : Int → Prop} (h : Q (ul b)) : oP b Q := by
  unfold oP
  unfold ul at h
  refine eU (fun e => ?_) (fun e => ?_)
  · rw [if_pos (by simpa using e)] at h; exact h
  · rw [if_neg (by simpa using e)] at h
    refine wo (zN b) (fun i x next hx h1 h0 => ?_) (Q := Q) (by split <;> rename_i e; rw [e] at h; exact h; exact h)
    have hf := hb x (List.mem_of_getElem? hx)
    exact LP (k2 := jF b Q i x (next ())) (k3 := lK Q (next ())) (by simp at e; omega) hx h1 h0 (W := iF) jM hf.1 hf.2.2.2.2 (fun c => rfl) (fun c => rfl)
structure Ll (b : List Body) : Prop where
  len : b.length ≤ 200
  rise : wK Body.Typ b
  each : ∀ x ∈ b, isWord x.Typ = true ∧ within x.W 1 100000 = true ∧ within x.H 1 100000 = true ∧ within x.Tall 1 100000 = true ∧ isWord x.Nozzle = true
theorem OE {b : List Body} (h : ul b = 0) : Ll b := by
  unfold ul at h
  split at h
  · omega
  have hb := xY h
  refine ⟨by omega, Fa (fun i x hx => ?_), fun x hx => ?_⟩
  · have := hb i x hx
    unfold zN at this
    cases hu : under Body.Typ b i x
    · rfl
    · simp only [hu, if_true] at this; repeat (first | omega | split at this)
  · obtain ⟨i, hi⟩ := List.getElem?_of_mem hx
    have := hb i x hi
    unfold zN at this
    cases a : isWord x.Typ <;> cases b1 : within x.W 1 100000 <;> cases b2 : within x.H 1 100000 <;> cases b3 : within x.Tall 1 100000 <;> cases d : isWord x.Nozzle <;> simp [a, b1, b2, b3, d] at this ⊢
def RQ : Body := ⟨[], 0, 0, 0, []⟩
def BF (b : List Body) (name : Str) : Option Body := b.find? (fun x => x.Typ == name)
theorem Ie {b : List Body} (hb : Ll b) {name : Str} {Q : Body → Bool → Prop} (h : Q ((BF b name).getD RQ) (BF b name).isSome) : uy b name Q := by
  unfold uy xX
  refine Bv (key := Body.Typ) hb.rise (by have := hb.len; omega) (name := name) (Q := fun y1 y2 => cnd (!y2) (Q (⟨[], 0, 0, 0, []⟩ : Body) false) (idx b y1 fun x1 => Q x1 true)) (fun X lo hi hX => hX) (fun i x hx hn => ?_) (fun hne i hi => ?_)
  · simp only [Bool.not_true, jI]
    refine gW hx ?_
    have : BF b name = some x := JX (key := Body.Typ) hb.rise hx hn
    simpa [this] using h
  · simp only [Bool.not_false, rD]
    have : BF b name = none := List.find?_eq_none.2 (fun x hx => by simpa using hne x hx)
    rw [this] at h
    exact h
def at0 (p : Place) : Bool := within p.At.X (-1000000) 1000000 && within p.At.Y (-1000000) 1000000 && within p.Quarters 0 3
def FD (b : List Body) (p : Place) : Int := if Bz p.Part = false then 5 else if (BF b p.Typ).isSome = false then 9 else if at0 p = false then 1 else 0
def Ei (b : List Body) (l : List Place) (k : Nat) (p : Place) : Int := if FD b p ≠ 0 then FD b p else if under Place.Part l k p = true then 8 else 0
def Gf (b : List Body) (l : List Place) : Int := if ul b ≠ 0 then ul b else if (l.length : Int) > 1000 then 2 else iU (Ei b l) l 0
theorem Kz (b : List Body) (l : List Place) (k : Nat) (x : Place) : Ei b l k x = if Bz x.Part = false then 5 else if (BF b x.Typ).isSome = false then 9 else if at0 x = false then 1 else if under Place.Part l k x = true then 8 else 0 := by
  unfold Ei FD
  cases Bz x.Part <;> cases (BF b x.Typ).isSome <;> cases at0 x <;> simp
theorem CZ {b : List Body} (hb : Fits.fits b) {l : List Place} (hlf : Fits.fits l) {Q : Int → Prop} (h : Q (Gf b l)) : lT b l Q := by
  unfold lT
  unfold Gf at h
  refine CU hb (eU (fun e => ?_) (fun e => ?_))
  · rw [if_pos (by simpa using e)] at h; exact h
  have e0 : ul b = 0 := by simpa using e
  have hok := OE e0
  rw [if_neg (by simp [e0])] at h
  refine eU (fun e => ?_) (fun e => ?_)
  · rw [if_pos (by simpa using e)] at h; exact h
  rw [if_neg (by simpa using e)] at h
  have hl : l.length ≤ 1000 := by simp at e; omega
  refine wo (Ei b l) (fun i x next hx h1 h0 => ?_) (Q := Q) (by split <;> rename_i e; rw [e] at h; exact h; exact h)
  have hk := TL hx
  unfold lF
  refine Ie hok (uN ?_)
  rw [Kz] at h1 h0
  cases a : Bz x.Part
  · simp only [a, if_true] at h1; simpa using h1 (by decide)
  cases b1 : (BF b x.Typ).isSome
  · simp only [a, b1, if_true, Bool.true_eq_false, if_false] at h1; simpa using h1 (by decide)
  simp only [Bool.not_true, jI]
  show cnd (within x.At.X (-1000000) 1000000) (cnd (!(within x.At.Y (-1000000) 1000000)) _ _) (cnd (!false) _ _)
  have hk2 : ∀ c, c = (!(at0 x)) → jH l Q i x (next ()) c := by
    rintro _ rfl
    unfold jH
    cases c : at0 x
    · simp only [a, b1, c, if_true, Bool.true_eq_false, if_false] at h1; simpa using h1 (by decide)
    simp only [Bool.not_true, jI]
    refine nX (key := Place.Part) (by omega) (by omega) ?_
    unfold kX
    simp only [a, b1, c, Bool.true_eq_false, if_false] at h1 h0
    cases hu : under Place.Part l i x
    · simp only [hu, Bool.false_eq_true, if_false, jI] at h0 ⊢; exact h0 trivial
    · simp only [hu, if_true, rD] at h1 ⊢; exact h1 (by decide)
  refine eU (fun c1 => eU (fun c2 => hk2 _ ?_) (fun c2 => hk2 _ ?_)) (fun c1 => eU (fun _ => hk2 _ ?_) (fun c2 => by simp at c2))
  · unfold at0; simp at c2; simp [c1, c2]
  · unfold at0; simp at c2; simp [c1, c2]
  · unfold at0; simp [c1]
end Go.Proofs.YtbegofbmbcghdaaGreatDoor
