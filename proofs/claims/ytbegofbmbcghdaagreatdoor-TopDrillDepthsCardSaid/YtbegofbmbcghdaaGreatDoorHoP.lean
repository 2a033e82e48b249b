/- Chapter texts of ours, as far as the claim needs them. -/
import Derived.Test.YtbegofbmbcghdaaGreatDoorHoB
import Derived.Test.YtbegofbmbcghdaaGreatDoorHoM
namespace Go.Proofs.YtbegofbmbcghdaaGreatDoor
open Go Go.RowKit
set_option linter.unusedVariables false
set_option linter.unusedSectionVars false
set_option linter.unusedSimpArgs false
theorem Ht {α : Type} {key : α → Str} {t : List α} (hl : t.length ≤ 500000) {name : Str} {F : (Int × Int → Prop) → Int × Int → Prop} {Q : Int → Bool → Prop}
    (hF : ∀ X lo hi, cnd (decide (lo < hi)) (idx t (cvt .i64 (ja .u64 (cvt .u64 (w64 (lo + hi))) 1)) fun x => cnd (decide (iw (key x) name < 0)) (X (w64 ((cvt .i64 (ja .u64 (cvt .u64 (w64 (lo + hi))) 1)) + 1), hi)) (X (lo, cvt .i64 (ja .u64 (cvt .u64 (w64 (lo + hi))) 1))))
      (cnd (decide (lo < (t.length : Int))) (idx t lo fun x => Q lo (iw (key x) name == 0)) (Q lo false)) → F X (lo, hi))
    (h1 : ∀ (i : Nat) x, t[i]? = some x → Q i true) (h0 : ∀ i : Nat, i ≤ t.length → Q i false) : lp F (0, (t.length : Int)) := by
  refine sQ (fun s => ∃ lo hi : Nat, s = ((lo : Int), (hi : Int)) ∧ lo ≤ hi ∧ hi ≤ t.length) (fun s => (s.2 - s.1).toNat) ⟨0, t.length, rfl, by omega, by omega⟩ ?_
  rintro X _ ⟨lo, hi, rfl, h1', h2⟩ hX
  refine hF X _ _ ?_
  rw [PG (by omega)]
  refine eU (fun e => ?_) (fun e => ?_)
  · have hlt : lo < hi := by simp at e; omega
    have hm : (lo + hi) / 2 < t.length := by omega
    refine gW (List.getElem?_eq_getElem hm) (eU (fun e2 => ?_) (fun e2 => ?_))
    · have hw : w64 ((((lo + hi) / 2 : Nat) : Int) + 1) = (((lo + hi) / 2 + 1 : Nat) : Int) := by rw [gV] <;> omega
      rw [hw]
      exact hX _ ⟨_, _, rfl, by omega, h2⟩ (by simp only; omega)
    · exact hX _ ⟨_, _, rfl, by omega, by omega⟩ (by simp only; omega)
  · refine eU (fun e2 => ?_) (fun e2 => h0 lo (by omega))
    have hlt : lo < t.length := by simp at e2; omega
    refine gW (List.getElem?_eq_getElem hlt) ?_
    cases hb : (iw (key t[lo]) name == 0)
    · exact h0 lo (by omega)
    · exact h1 lo _ (List.getElem?_eq_getElem hlt)
theorem ne0 {r : Int} {A : Prop} (h : r ≠ 0) : r = 0 → A := fun e => absurd e h
theorem Hy {t : List gK} (hr : wK gK.Name t) (hl : t.length ≤ 500000) {name : Str} {Q : Int → Prop} (h1 : ∀ (i : Nat) x, t[i]? = some x → x.Name = name → Q i) (h0 : (∀ x ∈ t, x.Name ≠ name) → Q (-1)) : mM t name Q := by
  unfold mM xN
  refine Bv (key := gK.Name) hr hl (name := name) (Q := fun y1 y2 => cnd (!y2) (Q (-1)) (Q y1)) (fun X lo hi hX => hX) (fun i x hx hn => ?_) (fun hne i hi => ?_)
  · exact eU (fun e => by simp at e) (fun _ => h1 i x hx hn)
  · exact eU (fun _ => h0 hne) (fun e => by simp at e)
theorem OA {t : gK} (hl : t.Pins.length ≤ 500000) {name : Str} {Q : Int → Prop} (h : ∀ r, Q r) : ql t name Q := by
  unfold ql yK
  exact Ht (key := iC.Name) hl (name := name) (Q := fun y1 y2 => cnd (!y2) (Q (-1)) (Q y1)) (fun X lo hi hX => hX) (fun i x hx => eU (fun _ => h _) (fun _ => h _)) (fun i hi => eU (fun _ => h _) (fun _ => h _))
theorem PE {l : List Part} (hl : l.length ≤ 500000) {name : Str} {Q : Int → Prop} (h1 : ∀ (i : Nat) x, l[i]? = some x → Q i) (h0 : Q (-1)) : ru l name Q := by
  unfold ru xK
  exact Ht (key := Part.Name) hl (name := name) (Q := fun y1 y2 => cnd (!y2) (Q (-1)) (Q y1)) (fun X lo hi hX => hX) (fun i x hx => eU (fun e => by simp at e) (fun _ => h1 i x hx)) (fun i hi => eU (fun _ => h0) (fun e => by simp at e))
theorem MG {l : List iC} (hf : Fits.fits l) {Q : Int → Prop} (h : ∀ r, (r = 0 → l.length ≤ 200) → Q r) : oU l Q := by
  unfold oU
  refine eU (fun e => h 9 (ne0 (by decide))) (fun _ => eU (fun _ => h 2 (ne0 (by decide))) (fun e => ?_))
  have hl : l.length ≤ 200 := by simp at e; omega
  refine iQ (fun _ _ => True) trivial (fun k x s hx _ next hn => ?_) (fun s _ => ?_)
  · have hX := hn () trivial
    have hk := TL hx
    unfold lI
    refine jM (hf x (List.mem_of_getElem? hx)).1 (eU (fun _ => h 5 (ne0 (by decide))) (fun _ => ?_))
    have k5 : ∀ c, kY Q (next ()) c := fun c => eU (fun _ => h 8 (ne0 (by decide))) (fun _ => hX)
    have k4 : ∀ c, kV l Q k x (next ()) c := fun c => eU (fun _ => h 1 (ne0 (by decide))) (fun _ => nX (key := iC.Name) (by omega) (by omega) (k5 _))
    have k3 : ∀ c, lq l Q k x (next ()) c := fun c => eU (fun _ => h 4 (ne0 (by decide))) (fun _ => eU (fun _ => k4 _) (fun _ => k4 _))
    exact eU (fun _ => k3 _) (fun _ => k3 _)
  · refine iQ (fun _ _ => True) trivial (fun k x s hx _ next hn => ?_) (fun s _ => h 0 (fun _ => hl))
    have hX := hn () trivial
    have hk := TL hx
    refine ⟨⟨by omega, by omega, by omega⟩, ?_⟩
    unfold sG vS
    have fin : ∀ c, cnd c (Q 12) (next ()) := fun c => eU (fun _ => h 12 (ne0 (by decide))) (fun _ => hX)
    refine iQ (fun _ _ => True) trivial (fun k2 x2 s2 hx2 _ next2 hn2 => ?_) (fun s _ => fin _)
    have hX2 := hn2 () trivial
    unfold pI yL
    have g : ∀ c, cnd c (cnd (decide ((k2 : Int) ≥ 0)) (Q 12) (next ())) (next2 ()) := fun c => eU (fun _ => fin _) (fun _ => hX2)
    exact eU (fun _ => eU (fun _ => g _) (fun _ => g _)) (fun _ => g _)
theorem Kt {t : List gK} (hf : Fits.fits t) {Q : Int → Prop} (h : ∀ r, (r = 0 → t.length ≤ 200 ∧ wK gK.Name t ∧ ∀ x ∈ t, x.Pins.length ≤ 200) → Q r) : ni t Q := by
  unfold ni
  refine eU (fun _ => h 2 (ne0 (by decide))) (fun e => ?_)
  have hl : t.length ≤ 200 := by simp at e; omega
  refine iQ (fun k _ => ∀ i x, i < k → t[i]? = some x → under gK.Name t i x = false ∧ x.Pins.length ≤ 200) (fun i x hi => by omega) (fun k x s hx hI next hn => ?_) (fun s hI => h 0 (fun _ => ⟨hl, Fa (fun i x hx => (hI i x (TL hx) hx).1), fun x hx => ?_⟩))
  · have hk := TL hx
    have hfx := hf x (List.mem_of_getElem? hx)
    unfold kU
    refine jM hfx.1 (eU (fun _ => h 5 (ne0 (by decide))) (fun _ => MG hfx.2 (fun r hr => eU (fun e => h r (fun e0 => by subst e0; simp at e)) (fun e => ?_))))
    have hr0 : r = 0 := by simpa using e
    refine nX (key := gK.Name) (by omega) (by omega) (eU (fun _ => h 8 (ne0 (by decide))) (fun e2 => hn _ (fun i y hi hy => ?_)))
    rcases Nat.lt_or_ge i k with hlt | hge
    · exact hI i y hlt hy
    · have : i = k := by omega
      subst this; rw [hx] at hy; injection hy with hy; subst hy
      exact ⟨e2, hr hr0⟩
  · obtain ⟨i, hi⟩ := List.getElem?_of_mem hx
    exact (hI i x (TL hi) hi).2
theorem KG {t : List gK} (hr : wK gK.Name t) (hl : t.length ≤ 200) {l : List Part} {Q : Int → Prop} (h : ∀ r, (r = 0 → l.length ≤ 1000 ∧ ∀ x ∈ l, ∃ y ∈ t, y.Name = x.Typ) → Q r) : nI t l Q := by
  unfold nI
  refine eU (fun _ => h 2 (ne0 (by decide))) (fun e => ?_)
  have hll : l.length ≤ 1000 := by simp at e; omega
  refine iQ (fun k _ => ∀ i x, i < k → l[i]? = some x → ∃ y ∈ t, y.Name = x.Typ) (fun i x hi => by omega) (fun k x s hx hI next hn => ?_) (fun s hI => h 0 (fun _ => ⟨hll, fun x hx => ?_⟩))
  · have hk := TL hx
    unfold kS
    refine uN (eU (fun _ => h 5 (ne0 (by decide))) (fun _ => Hy hr (by omega) (fun i y hy hn' => ?_) (fun _ => eU (fun _ => h 9 (ne0 (by decide))) (fun e => by simp at e))))
    refine eU (fun e => by have := of_decide_eq_true e; omega) (fun _ => nX (key := Part.Name) (by omega) (by omega) (eU (fun _ => h 8 (ne0 (by decide))) (fun e2 => hn _ (fun j z hj hz => ?_))))
    rcases Nat.lt_or_ge j k with hlt | hge
    · exact hI j z hlt hz
    · have : j = k := by omega
      subst this; rw [hx] at hz; injection hz with hz; subst hz
      exact ⟨y, List.mem_of_getElem? hy, hn'⟩
  · obtain ⟨i, hi⟩ := List.getElem?_of_mem hx
    exact hI i x (TL hi) hi
section
variable {t : List gK} (hr : wK gK.Name t) (hl : t.length ≤ 200) (hp : ∀ x ∈ t, x.Pins.length ≤ 200) {l : List Part} (hll : l.length ≤ 1000) (hty : ∀ x ∈ l, ∃ y ∈ t, y.Name = x.Typ)
include hr hl hp hll hty
theorem PO {p : Pin} {Q : Bool → Prop} (h : ∀ r, Q r) : qZ t l p Q := by
  unfold qZ
  refine PE (by omega) (fun i x hx => eU (fun _ => gW hx ?_) (fun _ => h _)) (eU (fun e => by simp at e) (fun _ => h _))
  refine Hy hr (by omega) (fun j y hy _ => gW hy (OA (by have := hp y (List.mem_of_getElem? hy); omega) (fun r => h _))) (fun hne => ?_)
  obtain ⟨y, hy, he⟩ := hty x (List.mem_of_getElem? hx)
  exact absurd he (hne y hy)
theorem Ia {x_ : qH} (hx_ : x_.Parts = l) {ps : List Pin} {seen : List (Pin × Bool)} {Q : Int → List (Pin × Bool) → Prop} (h : ∀ r m, Q r m) : lD ps t x_ seen Q := by
  unfold lD
  refine eU (fun _ => h _ _) (fun e => ?_)
  have hps : ps.length ≤ 500 := by simp at e; omega
  refine iQ (fun _ _ => True) trivial (fun k x s hx _ next hn => ?_) (fun s _ => iQ (fun _ _ => True) trivial (fun k x s hx _ next hn => hn _ trivial) (fun s _ => h _ _))
  have hX := hn () trivial
  have hk := TL hx
  unfold jQ yN
  rw [hx_]
  have k3 : ∀ c, jP seen Q x (next ()) c := fun c => eU (fun _ => h _ _) (fun _ => eU (fun _ => h _ _) (fun _ => hX))
  refine PO hr hl hp hll hty (fun r => eU (fun _ => h _ _) (fun _ => eU (fun e => ?_) (fun _ => k3 _)))
  have hk0 : 0 < k := by simpa using e
  refine Aa (by rw [gV (by omega) (by omega)]; omega) (by rw [gV (by omega) (by omega)]; omega) ?_
  unfold qg
  exact eU (fun _ => k3 _) (fun _ => k3 _)
end
theorem MX {t : List gK} {x : qH} (ht : Fits.fits t) {Q : Int → Prop} (h : ∀ r, (r = 0 → t.length ≤ 200 ∧ wK gK.Name t ∧ ∀ x ∈ t, x.Pins.length ≤ 200) → Q r) : oh t x Q := by
  unfold oh
  refine Kt ht (fun r hr => eU (fun _ => h _ hr) (fun e => ?_))
  have hT := hr (by simpa using e)
  replace h : ∀ r, Q r := fun r => h r (fun _ => hT)
  obtain ⟨hl, hri, hp⟩ := hT
  refine KG hri hl (fun r2 hr2 => eU (fun _ => h _) (fun e2 => ?_))
  obtain ⟨hll, hty⟩ := hr2 (by simpa using e2)
  refine eU (fun _ => h _) (fun e3 => ?_)
  have hn3 : x.Nets.length ≤ 1000 := by simp at e3; omega
  refine iQ (fun _ _ => True) trivial (fun k y s hy _ next hn => ?_) (fun s _ => h _)
  have hk := TL hy
  unfold lJ
  refine uN (eU (fun _ => h _) (fun _ => eU (fun _ => h _) (fun _ => Ia hri hl hp hll hty rfl (fun r m => eU (fun _ => h _) (fun _ => eU (fun _ => h _) (fun _ => ?_))))))
  exact nX (key := Net.Name) (by omega) (by omega) (eU (fun _ => h _) (fun _ => hn _ trivial))
end Go.Proofs.YtbegofbmbcghdaaGreatDoor
