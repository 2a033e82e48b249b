/- Chapter texts of ours, as far as the claim needs them. -/
import Derived.Test.YtbegofbmbcghdaaGreatDoorHoC
import Derived.Test.YtbegofbmbcghdaaGreatDoorHoP
namespace Go.Proofs.YtbegofbmbcghdaaGreatDoor
open Go Go.RowKit
set_option linter.unusedVariables false
set_option linter.unusedSectionVars false
set_option linter.unusedSimpArgs false
theorem PY {s : Str} (hs : Fits.fits s) {Q : Bool → Prop} (h : ∀ b, Q b) : ve s Q := by
  have hl : s.length ≤ 9223372036854775807 := hs
  unfold ve
  refine sQ (fun n => ∃ k : Nat, n = (k : Int) ∧ k ≤ s.length) (fun n => s.length - n.toNat) ⟨0, rfl, by omega⟩ ?_
  rintro X _ ⟨k, rfl, hk⟩ hX
  unfold qU
  refine eU (fun e => ?_) (fun _ => eU (fun _ => h _) (fun _ => h _))
  have hlt : k < s.length := by have := of_decide_eq_true e; omega
  refine gW (List.getElem?_eq_getElem hlt) ?_
  have go : X (w64 ((k : Int) + 1)) := by
    rw [gV (by omega) (by omega)]
    exact hX _ ⟨k + 1, by omega, by omega⟩ (by omega)
  have k3 : ∀ c, jm Q k X c := fun c => eU (fun _ => h _) (fun _ => go)
  have k2 : ∀ c, jE Q k X s[k] c := fun c => by
    unfold jE
    repeat' (first | exact k3 _ | refine eU (fun _ => ?_) (fun _ => ?_))
  repeat' (first | exact k2 _ | refine eU (fun _ => ?_) (fun _ => ?_))
theorem Fq {n unit : Int} (hu : unit ≠ 0) {Q : Bool → Prop} (h : ∀ b, Q b) : qI n unit Q := ⟨hu, hu, h _⟩
theorem Ko {p : Point} {unit : Int} (hu : unit ≠ 0) {Q : Bool → Prop} (h : ∀ b, Q b) : ug p unit Q :=
  Fq hu fun _ => eU (fun _ => Fq hu fun _ => h _) (fun _ => h _)
theorem MQ {t : jC} (hf : Fits.fits t) {unit : Int} (hu : unit ≠ 0) {Q : Int → Prop} (h : ∀ r, Q r) : rX t unit Q := by
  unfold rX
  refine PY hf.1 fun _ => eU (fun _ => h _) (fun _ => eU (fun _ => h _) (fun _ => eU (fun _ => h _) (fun _ => ?_)))
  refine iQ (fun _ _ => True) trivial (fun k x s hx _ next hn => ?_) (fun s _ => h _)
  have hX := hn () trivial
  have k3 : ∀ c, oJ Q (next ()) c := fun c => eU (fun _ => h _) (fun _ => hX)
  have k2 : ∀ c, jS Q x (next ()) c := fun c => eU (fun _ => h _) (fun _ => eU (fun _ => k3 _) (fun _ => k3 _))
  unfold oI
  exact Fq hu fun _ => eU (fun _ => k2 _) (fun _ => Fq hu fun _ => eU (fun _ => k2 _) (fun _ => Fq hu fun _ => eU (fun _ => k2 _) (fun _ => Fq hu fun _ => k2 _)))
theorem Qu {s : fK} {Q : Int → Prop} (h : ∀ r, Q r) : yQ s Q :=
  eU (fun _ => eU (fun _ => h _) (fun _ => h _)) (fun _ => eU (fun _ => h _) (fun _ => h _))
theorem Lu {l : List fK} {x : fK} (h : x ∈ l) : SizeOf.sizeOf x.Steps < SizeOf.sizeOf l := by
  have h1 := List.sizeOf_lt_of_mem h
  cases x
  simp at h1 ⊢
  omega
theorem JW (l : List fK) : 0 < SizeOf.sizeOf l := by cases l <;> simp <;> omega
theorem J5 : ∀ (n : Nat) (l : List fK), SizeOf.sizeOf l ≤ n → ∀ {Q : Int → Prop}, (∀ r, Q r) → uQ (n + 1) l Q
  | 0, l, hl, Q, h => by have := JW l; omega
  | n + 1, l, hl, Q, h => by
    show um (uQ (n + 1)) l Q
    unfold um
    refine iQ (fun _ _ => True) trivial (fun k x s hx _ next hn => ?_) (fun s _ => h _)
    have hlt := Lu (List.mem_of_getElem? hx)
    have k2 : ∀ m, sO Q (fun n2 => next n2) m := fun m => eU (fun _ => h _) (fun _ => hn _ trivial)
    unfold sU
    exact eU (fun _ => Qu fun _ => J5 n _ (by omega) fun _ => k2 _) (fun _ => k2 _)
theorem Qz {l : List fK} {Q : Int → Prop} (h : ∀ r, Q r) : wW l Q := ⟨_, J5 _ l (Nat.le_refl _) h⟩
theorem QT {l : List Point} {Q : Bool → Prop} (hl : l.length ≤ 9223372036854775807) (h : ∀ r, Q r) : vF l Q := by
  unfold vF
  refine eU (fun _ => h _) (fun e => ?_)
  have h4 : 4 ≤ l.length := by have := of_decide_eq_false e; omega
  refine iQ (fun _ _ => True) trivial (fun k x s hx _ next hn => ?_) (fun s _ => h _)
  have hk := TL hx
  refine ⟨by omega, Aa (Int.tmod_nonneg _ (by omega)) (Int.tmod_lt_of_pos _ (by omega)) (eU (fun _ => h _) (fun _ => hn _ trivial))⟩
theorem MN {p : qG} (hu : p.Unit ≠ 0) {s : fK} {depth : Int} {Q : Int → Prop} (h : ∀ r, Q r) : rO p s depth Q := by
  have k5 : ∀ c, ou s depth Q c := fun c => eU (fun _ => h _) (fun _ => eU (fun _ => h _) (fun _ => eU (fun _ => h _) (fun _ => h _)))
  have k4 : ∀ y c, oK s depth Q y c := fun y c => eU (fun _ => h _) (fun _ => eU (fun _ => h _) (fun _ => eU (fun _ => k5 _) (fun _ => k5 _)))
  have k3 : ∀ y c, oz s depth Q y c := fun y c => eU (fun _ => h _) (fun _ => eU (fun _ => h _) (fun e => eU (fun _ => QT (by have := of_decide_eq_false e; omega) fun _ => k4 _ _) (fun _ => k4 _ _)))
  have k2 : ∀ y c, oO p s depth Q y c := fun y c => eU (fun _ => h _) (fun _ => Ko hu fun _ => eU (fun _ => k3 _ _) (fun _ => by
    unfold qE tV
    refine iQ (fun _ _ => True) trivial (fun k x s hx _ next hn => ?_) (fun s _ => k3 _ _)
    exact Ko hu fun _ => eU (fun _ => k3 _ _) (fun _ => hn _ trivial)))
  have k1 : ∀ y c, iO p s depth Q y c := fun y c => eU (fun _ => h _) (fun _ => eU (fun _ => by
    unfold xP uG
    refine iQ (fun _ _ => True) trivial (fun k x s hx _ next hn => ?_) (fun s _ => k2 _ _)
    exact eU (fun _ => k2 _ _) (fun _ => hn _ trivial)) (fun _ => k2 _ _))
  have k8 : ∀ y c, lM p s depth Q y c := fun y c => by
    unfold lM
    repeat' (first | exact k1 _ _ | refine eU (fun _ => ?_) (fun _ => ?_))
  have k7 : ∀ y c, og p s depth Q y c := fun y c => eU (fun _ => k1 _ _) (fun _ => eU (fun _ => k8 _ _) (fun _ => k8 _ _))
  have k6 : ∀ y c, oG p s depth Q y c := fun y c => eU (fun _ => k1 _ _) (fun _ => eU (fun _ => k7 _ _) (fun _ => k7 _ _))
  unfold rO
  refine eU (fun _ => h _) (fun _ => ?_)
  have f : ∀ {G : iq → Prop}, (∀ y, G y) → sZ s.Kind G := fun g => by
    unfold sZ mP
    repeat' (first | exact g _ | refine eU (fun _ => ?_) (fun _ => ?_))
  exact f fun _ => eU (fun _ => k6 _ _) (fun _ => k6 _ _)
theorem BD {p : qG} (hu : p.Unit ≠ 0) : ∀ (n : Nat) (l : List fK) (depth : Int), SizeOf.sizeOf l ≤ n → ∀ {Q : Int → Prop}, (∀ r, Q r) → nR (n + 1) p l depth Q
  | 0, l, depth, hl, Q, h => by have := JW l; omega
  | n + 1, l, depth, hl, Q, h => by
    show oC (nR (n + 1)) p l depth Q
    unfold oC
    refine iQ (fun _ _ => True) trivial (fun k x s hx _ next hn => ?_) (fun s _ => h _)
    have hlt := Lu (List.mem_of_getElem? hx)
    unfold nG
    exact MN hu fun _ => eU (fun _ => h _) (fun _ => BD hu n _ _ (by omega) fun _ => eU (fun _ => h _) (fun _ => hn _ trivial))
theorem Gi {p : qG} (hf : Fits.fits p) {Q : Int → Prop} (h : ∀ r, Q r) : jK p Q := by
  unfold jK
  refine eU (fun _ => h _) (fun e => eU (fun _ => h _) (fun e2 => ?_))
  have hu : p.Unit ≠ 0 := by
    intro h0
    rw [h0] at e
    revert e; decide
  have hl : p.Tools.length ≤ 200 := by have := of_decide_eq_false e2; omega
  refine iQ (fun _ _ => True) trivial (fun k x s hx _ next hn => ?_) (fun s _ => Qz fun _ => eU (fun _ => h _) (fun _ => ⟨_, BD hu _ p.Steps 0 (Nat.le_refl _) fun _ => h _⟩))
  have hk := TL hx
  unfold oN
  refine MQ (hf.2.1 x (List.mem_of_getElem? hx)) hu fun _ => eU (fun _ => h _) (fun _ => ?_)
  exact nX (key := jC.Name) (by omega) (by omega) (eU (fun _ => h _) (fun _ => hn _ trivial))
end Go.Proofs.YtbegofbmbcghdaaGreatDoor
