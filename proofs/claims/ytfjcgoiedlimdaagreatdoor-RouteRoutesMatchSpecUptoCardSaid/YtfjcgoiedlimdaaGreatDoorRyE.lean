/- Chapter texts of ours, as far as the claim needs them. -/
import Derived.Test.YtfjcgoiedlimdaaGreatDoorRtW
import Derived.Test.YtfjcgoiedlimdaaGreatDoorRtX2a
import Derived.Test.YtfjcgoiedlimdaaGreatDoorRtQ
import Derived.Test.YtfjcgoiedlimdaaGreatDoorRtH
import Derived.Test.YtfjcgoiedlimdaaGreatDoorRtG
import Derived.Test.YtfjcgoiedlimdaaGreatDoorRyA
import Derived.Test.YtfjcgoiedlimdaaGreatDoorStrs
namespace Go.Proofs.YtfjcgoiedlimdaaGreatDoor
open Go Go.RowKit
set_option linter.unusedVariables false
set_option linter.unusedSectionVars false
set_option linter.unusedSimpArgs false
theorem Fg {g : Grid} (hg : GOk g) {pins : List Cell} {most : Int} {Q : Int → Prop} (h : Q (yG g pins most)) : pK g pins most Q := by
  unfold pK
  unfold yG at h
  refine fB (fun e => ?_) (fun e => fB (fun e2 => ?_) (fun e2 => ?_))
  · rw [if_pos (by simpa using e)] at h; exact h
  · rw [if_neg (by simpa using e), if_pos (by simpa using e2)] at h; exact h
  · rw [if_neg (by simpa using e), if_neg (by simpa using e2)] at h
    refine ve (Q := Q) (Eb g pins) (fun k x next hx hI hne h0 => ?_) (by
      split
      · rename_i e9; rw [e9] at h; exact h
      · exact h)
    have hlt := dO hx
    unfold mX
    refine yV hg.sz ?_
    unfold Eb at hne h0
    cases e6 : inG g x with
    | false => simp only [Bool.not_false, iJ]; rw [if_pos e6] at hne; exact hne (by decide)
    | true =>
      simp only [Bool.not_true, gY]
      rw [if_neg (by simp [e6])] at hne h0
      refine oC ?_
      refine fB (fun e7 => ?_) (fun e7 => ?_)
      · rw [if_pos (by simpa using e7)] at hne; exact hne (by decide)
      · rw [if_neg (by simpa using e7)] at hne h0
        refine ⟨⟨Int.le_refl _, by omega, by omega⟩, oC ?_⟩
        have hseg : seg pins 0 (k : Int) = pins.take k := by unfold seg; simp
        rw [hseg]
        refine fB (fun e8 => ?_) (fun e8 => ?_)
        · rw [if_pos (by simpa using e8)] at hne; exact hne (by decide)
        · rw [if_neg (by simpa using e8)] at h0; exact h0 rfl
def Es (g : Grid) (w : List Cell) (k : Nat) (x : Cell) : Int :=
  if inG g x = false then 1 else if x ∈ g.Blocked then 14 else if 0 < k ∧ axC (w.getD (k - 1) default) x = 0 then 3 else if x ∈ w.take k then 7 else 0
def CO (g : Grid) (w : List Cell) : Int := if w.length = 0 then 9 else if w.length > 40000 then 2 else iM (Es g w) w 0
theorem AZ {g : Grid} {w : List Cell} {k : Nat} {x : Cell} (h : Es g w k x = 0) : inG g x = true ∧ x ∉ g.Blocked ∧ (0 < k → axC (w.getD (k - 1) default) x ≠ 0) ∧ x ∉ w.take k := by
  unfold Es at h
  split at h
  · exact absurd h (by decide)
  · rename_i e1
    split at h
    · exact absurd h (by decide)
    · rename_i e2
      split at h
      · exact absurd h (by decide)
      · rename_i e3
        split at h
        · exact absurd h (by decide)
        · rename_i e4
          exact ⟨by simpa using e1, e2, fun hk e => e3 ⟨hk, e⟩, e4⟩
theorem IG {α σ : Type} {t : List α} {body : Nat → α → σ → (σ → Prop) → Prop} {done : σ → Prop} {Q : Int → Prop} {s : σ} (f : Nat → α → Int) (I : Nat → σ → Prop) (h0 : I 0 s)
    (hb : ∀ k x s next, t[k]? = some x → I k s → (∀ j y, j < k → t[j]? = some y → f j y = 0) → (f k x ≠ 0 → Q (f k x)) → (f k x = 0 → ∀ s', I (k + 1) s' → next s') → body k x s next)
    (h : if iM f t 0 = 0 then ∀ s', I t.length s' → done s' else Q (iM f t 0)) : forIn' body done t 0 s := by
  refine jO (fun k s => I k s ∧ ∀ j y, j < k → t[j]? = some y → f j y = 0) ⟨h0, fun j y hj => by omega⟩ (fun k x s hx hI next hn => ?_) (fun s hI => ?_)
  · refine hb k x s next hx hI.1 hI.2 (fun hne => ?_) (fun h0 s' hs' => hn _ ⟨hs', fun j y hj hy => ?_⟩)
    · have h2 := zU (f := f) t 0 k x (fun j y hj hy => by rw [Nat.zero_add]; exact hI.2 j y hj hy) hx (by rw [Nat.zero_add]; exact hne)
      rw [Nat.zero_add] at h2
      rw [h2, if_neg hne] at h
      exact h
    · rcases Nat.lt_or_ge j k with hlt | hge
      · exact hI.2 j y hlt hy
      · have : j = k := by omega
        subst this; rw [hx] at hy; injection hy with hy; subst hy; exact h0
  · have := qV t 0 (f := f) (fun j y hy => by rw [Nat.zero_add]; exact hI.2 j y (dO hy) hy)
    rw [this, if_pos rfl] at h
    exact h s hI.1
def F5 (c : gy) : Int → Cell → List Cell → Int
  | _, _, [] => 0
  | last, a, b :: r => (uF c b.Layer last (axC a b)).1 + F5 c (uF c b.Layer last (axC a b)).2 b r
def QD (c : gy) : List Cell → Int
  | [] => 0
  | a :: r => F5 c 0 a r
theorem uY {g : Grid} {w : List Cell} (h : CO g w = 0) : w.length ≤ 40000 ∧ w ≠ [] ∧ ∀ i x, w[i]? = some x → Es g w i x = 0 := by
  unfold CO at h
  split at h
  · exact absurd h (by decide)
  · split at h
    · exact absurd h (by decide)
    · refine ⟨by omega, fun e => by subst e; simp at *, fun i x hx => ?_⟩
      have := wC h i x hx
      rwa [Nat.zero_add] at this
theorem Ee {s : Str} (hs : Fits.fits s) {Q : Bool → Prop} (h : Q (isWord s)) : pW s Q := by
  unfold pW
  refine H9 hs (Q := Q) (fun X n hX => ?_) h
  unfold mW gV
  refine JU hX (fun hi => ?_) (fun hq => ?_)
  · obtain ⟨h0, x, hx, hc⟩ := hi
    refine ⟨h0, x, hx, ?_⟩
    unfold badByte at hc
    cases h1 : decide ((x.toNat : Int) < 65) <;> cases h2 : decide ((x.toNat : Int) > 90) <;> cases h3 : decide ((x.toNat : Int) < 97) <;> cases h4 : decide ((x.toNat : Int) > 122) <;> cases h5 : decide ((x.toNat : Int) < 48) <;> cases h6 : decide ((x.toNat : Int) > 57) <;>
      simp only [h1, h2, h3, h4, h5, h6, Bool.or_true, Bool.true_or, Bool.or_false, Bool.false_and, Bool.true_and, Bool.and_true, Bool.and_false, iJ, gY] at hc ⊢ <;> exact hc
  · refine fB (fun e => ?_) (fun e => ?_)
    · have e1 : 1 ≤ s.length := by simp at e; omega
      have : decide ((s.length : Int) ≤ 40) = decide (s.length ≤ 40) := by congr 1; exact propext ⟨fun h => by omega, fun h => by omega⟩
      rw [this]; simpa [e1] using hq
    · have e1 : ¬ 1 ≤ s.length := by simp at e; omega
      simpa [e1] using hq
theorem Hy {s : Str} (hs : Fits.fits s) {Q : Bool → Prop} (h : Q (isWord s)) : uq s Q := by
  unfold uq
  refine H9 hs (Q := Q) (fun X n hX => ?_) h
  unfold pM iC
  refine JU hX (fun hi => ?_) (fun hq => ?_)
  · obtain ⟨h0, x, hx, hc⟩ := hi
    refine ⟨h0, x, hx, ?_⟩
    unfold badByte at hc
    cases h1 : decide ((x.toNat : Int) < 65) <;> cases h2 : decide ((x.toNat : Int) > 90) <;> cases h3 : decide ((x.toNat : Int) < 97) <;> cases h4 : decide ((x.toNat : Int) > 122) <;> cases h5 : decide ((x.toNat : Int) < 48) <;> cases h6 : decide ((x.toNat : Int) > 57) <;>
      simp only [h1, h2, h3, h4, h5, h6, Bool.or_true, Bool.true_or, Bool.or_false, Bool.false_and, Bool.true_and, Bool.and_true, Bool.and_false, iJ, gY] at hc ⊢ <;> exact hc
  · have : within (s.length : Int) 1 40 = (decide (1 ≤ s.length) && decide (s.length ≤ 40)) := by
      unfold within; congr 1 <;> (congr 1; exact propext ⟨fun h => by omega, fun h => by omega⟩)
    rw [this]; exact hq
def wQ (s : Str) : Bool := decide (s.length ≤ 200) && (Lib.split s [47]).all isWord
theorem Gx {s x : Str} (hs : s.length ≤ 9223372036854775807) (hx : x ∈ Lib.split s [47]) : Fits.fits x := by
  have := Ie [47] _ s x hx
  show x.length ≤ 9223372036854775807
  omega
theorem zH {s : Str} (hs : s.length < 4294967281) {Q : List Str → Prop} (h : Q (Lib.split s [47])) : qG s [47] Q := ⟨⟨hs, ⟨47, rfl⟩, rfl, rfl⟩, h⟩
theorem En {s : Str} {Q : Bool → Prop} (h : Q (wQ s)) : pV s Q := by
  unfold pV
  refine fB (fun e => ?_) (fun e => ?_)
  · have hl : s.length ≤ 200 := by simp at e; omega
    refine zH (by omega) ?_
    have hp : wQ s = !((Lib.split s [47]).any (fun x => !(isWord x))) := by
      unfold wQ
      rw [decide_eq_true hl, Bool.true_and, List.all_eq_not_any_not]
    have key : ∀ (Qi : Int → Prop) (xs : List Str) (k : Nat), (∀ x ∈ xs, Fits.fits x) → (if xs.any (fun x => !(isWord x)) = true then ∀ i : Nat, Qi i else Qi (-1)) → forIn' (fun k x (s : Unit) next => kC Qi k x (next ())) (fun (_ : Unit) => Qi (-1)) xs k () := by
      intro Qi xs
      induction xs with
      | nil => intro k _ h; exact h
      | cons x r ih =>
        intro k hf h
        show kC Qi k x _
        unfold kC Be
        refine Ee (hf x (List.mem_cons_self ..)) (fB (fun e => ?_) (fun e => ?_))
        · rw [if_pos (by simp only [List.any_cons, e, Bool.true_or])] at h
          exact h k
        · refine ih (k + 1) (fun y hy => hf y (List.mem_cons_of_mem _ hy)) ?_
          simp only [List.any_cons, e, Bool.false_or] at h
          exact h
    refine key _ _ 0 (fun x hx => Gx (by omega) hx) ?_
    rw [hp] at h
    split
    · rename_i e
      rw [e] at h
      intro i
      have hk : decide ((i : Int) ≥ 0) = true := by simp
      show Q (!(decide ((i : Int) ≥ 0)))
      rw [hk]; exact h
    · rename_i e
      rw [Bool.eq_false_iff.2 e] at h
      exact h
  · have hl : decide (s.length ≤ 200) = false := by simp at e; simp; omega
    unfold wQ at h
    rw [hl] at h
    exact h
theorem Hu {s : Str} (hs : s.length < 4294967281) {Q : Bool → Prop} (h : Q (wQ s)) : uw s Q := by
  unfold uw
  refine zH hs ?_
  have hd : decide ((s.length : Int) ≤ 200) = decide (s.length ≤ 200) := by congr 1; exact propext ⟨fun h => by omega, fun h => by omega⟩
  unfold wQ at h
  rw [Bool.and_comm] at h
  have key : ∀ (xs : List Str) (k : Nat), (∀ x ∈ xs, Fits.fits x) → Q (xs.all isWord && decide (s.length ≤ 200)) → forIn' (fun k x (s : Unit) next => kY Q k x (next ())) (fun (_ : Unit) => Q (decide ((s.length : Int) ≤ 200))) xs k () := by
    intro xs
    induction xs with
    | nil => intro k _ h; show Q (decide ((s.length : Int) ≤ 200)); rw [hd]; exact h
    | cons x r ih =>
      intro k hf h
      show kY Q k x _
      unfold kY
      refine Hy (hf x (List.mem_cons_self ..)) (fB (fun e => ?_) (fun e => ?_))
      · have e' : isWord x = false := by simpa using e
        simp only [List.all_cons, e', Bool.false_and] at h
        exact h
      · have e' : isWord x = true := by simpa using e
        refine ih (k + 1) (fun y hy => hf y (List.mem_cons_of_mem _ hy)) ?_
        simp only [List.all_cons, e', Bool.true_and] at h
        exact h
  exact key _ 0 (fun x hx => Gx (by omega) hx) h
def zZ (t : List Task) (p : Cell) : Bool := t.any (fun y => decide (p ∈ y.Pins))
def yT (g : Grid) (t : List Task) (k : Nat) (x : Task) : Int :=
  if wQ x.Net = false then 5 else if yG g x.Pins 50 ≠ 0 then yG g x.Pins 50 else if x.Pins.any (zZ (t.take k)) = true then 7 else if under Task.Net t k x = true then 8 else 0
def vW (g : Grid) (t : List Task) : Int := if uf g ≠ 0 then uf g else if t.length > 100 then 2 else iM (yT g t) t 0
theorem IJ {g : Grid} {t : List Task} {k : Nat} {x : Task} (h : yT g t k x = 0) : wQ x.Net = true ∧ yG g x.Pins 50 = 0 ∧ x.Pins.any (zZ (t.take k)) = false ∧ under Task.Net t k x = false := by
  unfold yT at h
  split at h
  · cases h
  · rename_i h1
    split at h
    · rename_i h2; exact absurd h h2
    · rename_i h2
      split at h
      · cases h
      · rename_i h3
        split at h
        · cases h
        · rename_i h4
          exact ⟨by simpa using h1, Decidable.not_not.1 h2, by simpa using h3, by simpa using h4⟩
theorem Le {t : List Task} {k : Nat} {x : Task} (hx : t[k]? = some x) (p : Cell) : zZ (t.take (k + 1)) p = (zZ (t.take k) p || decide (p ∈ x.Pins)) := by
  unfold zZ
  rw [List.take_add_one, hx, List.any_append]
  simp
def zk (m : List (Cell × Bool)) (f : Cell → Bool) : Prop := ∀ c, (Ap m c).getD false = f c
theorem zk.put {m : List (Cell × Bool)} {f : Cell → Bool} (h : zk m f) (c : Cell) : zk (Aj m c true) (fun x => f x || decide (x = c)) := by
  intro x
  rw [JR]
  by_cases e : c = x
  · subst e; simp
  · rw [if_neg e, h x]; simp [Ne.symm e]
theorem zk.congr {m : List (Cell × Bool)} {f f' : Cell → Bool} (h : zk m f) (e : ∀ x, f x = f' x) : zk m f' := fun c => (h c).trans (e c)
theorem Gu {s : List Cell} {m : List (Cell × Bool)} {f : Cell → Bool} (hm : zk m f) {Q : Bool → List (Cell × Bool) → Prop} (h : Q (s.any f) m) : mQ s m Q := by
  unfold mQ sG
  have key : ∀ (l : List Cell) (k : Nat), (l.any f = true → Q true m) → (l.any f = false → Q false m) → forIn' (fun k x (s : List (Cell × Bool)) next => jR (fun y1 z1 => Q (decide (y1 ≥ 0)) z1) k x s (fun m2 => next m2)) (fun (s : List (Cell × Bool)) => (fun (m2 : List (Cell × Bool)) => Q (decide ((-1 : Int) ≥ 0)) m2) s) l k m := by
    intro l
    induction l with
    | nil => intro k _ h0; exact h0 rfl
    | cons x r ih =>
      intro k h1 h0
      show jR (fun y1 z1 => Q (decide (y1 ≥ 0)) z1) k x m _
      unfold jR CW
      rw [hm x]
      cases e : f x
      · refine fB (fun e' => by cases e') (fun _ => ih (k + 1) (fun e' => h1 (by rw [List.any_cons, e, e']; rfl)) (fun e' => h0 (by rw [List.any_cons, e, e']; rfl)))
      · refine fB (fun _ => ?_) (fun e' => by cases e')
        show Q (decide ((k : Int) ≥ 0)) m
        rw [decide_eq_true (Int.natCast_nonneg k)]
        exact h1 (by rw [List.any_cons, e]; rfl)
  refine key s 0 (fun e => ?_) (fun e => ?_)
  · rw [e] at h; exact h
  · rw [e] at h; exact h
theorem xG {g : Grid} {t : List Task} {Q : Int → Prop} (h : Q (vW g t)) : kz g t Q := by
  unfold kz
  unfold vW at h
  refine ET (fB (fun e => ?_) (fun e => ?_))
  · rw [if_pos (by simpa using e)] at h; exact h
  have e0 : uf g = 0 := by simpa using e
  have hg := oZ e0
  rw [if_neg (by simp [e0])] at h
  refine fB (fun e => ?_) (fun e => ?_)
  · rw [if_pos (by have := of_decide_eq_true e; omega)] at h; exact h
  have hl : t.length ≤ 100 := by have := of_decide_eq_false e; omega
  rw [if_neg (by omega)] at h
  refine Ep hg ?_
  refine IG (Q := Q) (yT g t) (fun k m => zk m (zZ (t.take k))) (fun c => rfl) (fun k x m next hx hI hb h1 h0 => ?_) ?_
  · unfold kU
    unfold yT at h1 h0
    refine En (fB (fun e => ?_) (fun e => ?_))
    · have e' : wQ x.Net = false := by simpa using e
      rw [if_pos e'] at h1; exact h1 (by decide)
    have e1 : ¬ wQ x.Net = false := by simpa using e
    rw [if_neg e1] at h1 h0
    refine C9 hg (fB (fun e => ?_) (fun e => ?_))
    · have e' : yG g x.Pins 50 ≠ 0 := by simpa using e
      rw [if_pos e'] at h1; exact h1 e'
    have e2 : ¬ yG g x.Pins 50 ≠ 0 := by simpa using e
    rw [if_neg e2] at h1 h0
    refine Gu hI (fB (fun e => ?_) (fun e => ?_))
    · rw [if_pos e] at h1; exact h1 (by decide)
    rw [if_neg (by rw [e]; decide)] at h1 h0
    refine jO (fun j (m : List (Cell × Bool)) => zk m (fun c => zZ (t.take k) c || decide (c ∈ x.Pins.take j))) (hI.congr fun c => by simp) (fun j y m' hy hJ nx hn => ?_) (fun m' hJ => ?_)
    · unfold kV
      refine hn _ ((hJ.put y).congr fun c => ?_)
      rw [List.take_add_one, hy]
      simp only [Option.toList, List.mem_append, List.mem_singleton, Bool.or_assoc]
      congr 1
      rw [← Bool.decide_or]
    · rw [List.take_length] at hJ
      have hk := dO hx
      refine Gj (key := Task.Net) (by omega) (by omega) ?_
      unfold jv
      refine fB (fun e => ?_) (fun e => ?_)
      · rw [if_pos e] at h1; exact h1 (by decide)
      · rw [if_neg (by rw [e]; decide)] at h0
        exact h0 rfl _ (hJ.congr fun c => (Le hx c).symm)
  · split
    · rename_i e'
      intro s' _
      rw [e'] at h; exact h
    · exact h
theorem yK {g : Grid} {t : List Task} (ht : ∀ x ∈ t, x.Net.length < 4294967281) {Q : Int → Prop} (h : Q (vW g t)) : kK g t Q := by
  unfold kK
  unfold vW at h
  refine zK (fB (fun e => ?_) (fun e => ?_))
  · rw [if_pos (by simpa using e)] at h; exact h
  have e0 : uf g = 0 := by simpa using e
  have hg := oZ e0
  rw [if_neg (by simp [e0])] at h
  refine fB (fun e => ?_) (fun e => ?_)
  · rw [if_pos (by have := of_decide_eq_true e; omega)] at h; exact h
  have hl : t.length ≤ 100 := by have := of_decide_eq_false e; omega
  rw [if_neg (by omega)] at h
  refine Jz (Q := Q) (yT g t) (fun k x next hx h1 h0 => ?_) ?_
  · unfold mg
    unfold yT at h1 h0
    refine Hu (ht x (List.mem_of_getElem? hx)) (fB (fun e => ?_) (fun e => ?_))
    · have e' : wQ x.Net = false := by simpa using e
      rw [if_pos e'] at h1; exact h1 (by decide)
    have e1 : ¬ wQ x.Net = false := by simpa using e
    rw [if_neg e1] at h1 h0
    refine Fg hg (fB (fun e => ?_) (fun e => ?_))
    · have e' : yG g x.Pins 50 ≠ 0 := by simpa using e
      rw [if_pos e'] at h1; exact h1 e'
    have e2 : ¬ yG g x.Pins 50 ≠ 0 := by simpa using e
    rw [if_neg e2] at h1 h0
    have hk := dO hx
    refine ⟨⟨by omega, by omega, by omega⟩, ?_⟩
    have es : seg t (0 : Int) (k : Int) = t.take k := by simp [seg]
    rw [es]
    have swap : x.Pins.any (zZ (t.take k)) = (t.take k).any (fun y => x.Pins.any (fun p => decide (p ∈ y.Pins))) := by
      rw [Bool.eq_iff_iff, List.any_eq_true, List.any_eq_true]
      unfold zZ
      constructor
      · rintro ⟨p, hp, h2⟩
        obtain ⟨y, hy, h3⟩ := List.any_eq_true.1 h2
        exact ⟨y, hy, List.any_eq_true.2 ⟨p, hp, h3⟩⟩
      · rintro ⟨y, hy, h2⟩
        obtain ⟨p, hp, h3⟩ := List.any_eq_true.1 h2
        exact ⟨p, hp, List.any_eq_true.2 ⟨y, hy, h3⟩⟩
    rw [swap] at h1 h0
    refine yR (fun y => x.Pins.any (fun p => decide (p ∈ y.Pins))) (A := Q 7) (fun j y nx hq => ?_) (t.take k) 0 ?_
    · unfold lQ
      refine yR (fun p => decide (p ∈ y.Pins)) (A := Q 7) (fun i p n2 hq2 => ?_) x.Pins 0 ?_
      · unfold lX
        exact oC (O7.2 hq2)
      · exact hq
    · split
      · rename_i e; rw [if_pos e] at h1; exact h1 (by decide)
      · rename_i e
        rw [if_neg e] at h1 h0
        refine Gj (key := Task.Net) (by omega) (by omega) ?_
        unfold jF
        refine fB (fun e => ?_) (fun e => ?_)
        · rw [if_pos e] at h1; exact h1 (by decide)
        · rw [if_neg (by rw [e]; decide)] at h0; exact h0 rfl
  · split
    · rename_i e'; rw [e'] at h; exact h
    · exact h
end Go.Proofs.YtfjcgoiedlimdaaGreatDoor
