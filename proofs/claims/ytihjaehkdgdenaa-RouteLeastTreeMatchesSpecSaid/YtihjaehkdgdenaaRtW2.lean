/- Chapter 7: the reference's pins, and costs that spread there: plain laws. -/
import Derived.Test.YtihjaehkdgdenaaRtW
import Derived.Test.YtihjaehkdgdenaaRtX2a
import Derived.Test.YtihjaehkdgdenaaRtQ
namespace Go.Proofs.Ytihjaehkdgdenaa
open Go Go.RowKit
set_option linter.unusedVariables false
set_option linter.unusedSimpArgs false

theorem S_ref_checkPins {g : Grid} (hg : GOk g) {pins : List Cell} {most : Int} {Q : Int → Prop} (h : Q (pinsF g pins most)) : M_ref7_checkPins g pins most Q := by
  unfold M_ref7_checkPins
  unfold pinsF at h
  refine cnd_of (fun e => ?_) (fun e => cnd_of (fun e2 => ?_) (fun e2 => ?_))
  · rw [if_pos (by simpa using e)] at h; exact h
  · rw [if_neg (by simpa using e), if_pos (by simpa using e2)] at h; exact h
  · rw [if_neg (by simpa using e), if_neg (by simpa using e2)] at h
    refine forIn_checkP (Q := Q) (pinBad g pins) (fun k x next hx hI hne h0 => ?_) (by
      split
      · rename_i e9; rw [e9] at h; exact h
      · exact h)
    have hlt := lt_of_get hx
    unfold M_ref7_checkPins_L1
    refine S_ref_isCell hg.sz ?_
    unfold pinBad at hne h0
    cases e6 : inG g x with
    | false => simp only [Bool.not_false, cnd_true]; rw [if_pos e6] at hne; exact hne (by decide)
    | true =>
      simp only [Bool.not_true, cnd_false]
      rw [if_neg (by simp [e6])] at hne h0
      refine S_contains_cell ?_
      refine cnd_of (fun e7 => ?_) (fun e7 => ?_)
      · rw [if_pos (by simpa using e7)] at hne; exact hne (by decide)
      · rw [if_neg (by simpa using e7)] at hne h0
        refine ⟨⟨Int.le_refl _, by omega, by omega⟩, S_contains_cell ?_⟩
        have hseg : seg pins 0 (k : Int) = pins.take k := by unfold seg; simp
        rw [hseg]
        refine cnd_of (fun e8 => ?_) (fun e8 => ?_)
        · rw [if_pos (by simpa using e8)] at hne; exact hne (by decide)
        · rw [if_neg (by simpa using e8)] at h0; exact h0 rfl
theorem S_grow {f : R7Field} (hf : FOk f) {M : Int} (hM : 0 ≤ M ∧ M ≤ 100000000000) {l : List Int} (hl : l.length = (grG f.g).N) (h1 : ∀ (i : Nat) d, l[i]? = some d → -1 ≤ d ∧ d ≤ M ∧ (0 ≤ d → (grC f.g f.c).no i = false)) {Q : List Int → Prop} (h : ∀ l', (grC f.g f.c).Spr l l' → (∀ (i : Nat) d, l'[i]? = some d → 0 ≤ d → d ≤ M + (grG f.g).N * 1000) → Q l') : M_field_grow f l Q := by
  have hN := hf.g.N
  have hG := goodF_of hf.g hf.c
  have hok : (grC f.g f.c).Ok := hG.ok
  unfold M_field_grow
  refine spread_loop (G := grC f.g f.c) hok (Gr.RX.init hl h1) (Q := Q) (fun X l2 hrx hX => ?_) (fun X c hc => ?_) h
  · show M_field_grow_L1 f Q (fun l2 b2 => X (l2, b2)) l2 true
    unfold M_field_grow_L1
    simp only [cnd_true]
    refine lp_measN (fun m (s : List Int × Bool × Int) => ∃ k : Nat, s.2.2 = (k : Int) ∧ k + m = (grG f.g).N ∧ SwI (grC f.g f.c) M l l2 k s.1 s.2.1) (n := (grG f.g).N) ⟨0, rfl, by omega, hrx, Nat.le_refl _, fun e => (by cases e), fun _ n hn => by omega⟩ ?_
    rintro m ⟨c, b, i⟩ Y ⟨k, hk, hkm, hs⟩ hY
    simp only at hk hs
    subst hk
    show M_field_grow_L2 f l2 (fun l2 b2 => X (l2, b2)) (fun l4 b4 n2 => Y (l4, b4, n2)) c b (k : Int)
    unfold M_field_grow_L2
    have hl2 : l2.length = (grG f.g).N := hrx.len
    have ek : w64 ((k : Int) + 1) = ((k + 1 : Nat) : Int) := by rw [w64_id] <;> omega
    rw [hl2, ek]
    refine cnd_of (fun e => ?_) (fun e => ?_)
    · have hkl : k < (grG f.g).N := by simpa using e
      have hx : c[k]? = some (c[k]'(by rw [hs.1.len]; exact hkl)) := List.getElem?_eq_getElem _
      generalize c[k]'(by rw [hs.1.len]; exact hkl) = x at hx
      refine idx_nat hx (cnd_of (fun e2 => ?_) (fun e2 => ?_))
      · exact hY (m - 1) _ (by omega) ⟨k + 1, rfl, by omega, hs.skip hx (by simpa using e2)⟩
      · have hx0 : 0 ≤ x := by simpa using e2
        have hle : x + 1000 ≤ M + (grG f.g).N * 1000 := hs.1.le hx hx0
        refine S_field_cell hf.g.sz hkl (S_neighbours hf hkl ?_)
        -- one neighbour after the other
        have loop : ∀ (R L : List (Nat × Int)) (kk : Nat) (c : List Int) (b : Bool), (grC f.g f.c).nbrs k = L ++ R → NbI (grC f.g f.c) M l l2 k x L c b →
            forIn' (fun kx x' (s : List Int × Bool) next => M_field_grow_L3 f x (cellN f.g k) kx x' s.1 s.2 (fun l6 c6 => next (l6, c6))) (fun (s : List Int × Bool) => (fun (l6 : List Int) (c6 : Bool) => Y (l6, c6, ((k + 1 : Nat) : Int))) s.1 s.2) (R.map (fun e => cellN f.g e.1)) kk (c, b) := by
          intro R
          induction R with
          | nil =>
            intro L kk c b hL hI
            rw [List.append_nil] at hL
            subst hL
            exact hY (m - 1) (c, b, ((k + 1 : Nat) : Int)) (by omega) ⟨k + 1, rfl, by omega, hI.close⟩
          | cons q r ih =>
            intro L kk c b hL hI
            obtain ⟨m', al⟩ := q
            have hmem : (m', al) ∈ (grC f.g f.c).nbrs k := by rw [hL]; simp
            obtain ⟨hnb, hfree⟩ := ((grC f.g f.c).mem_nbrs (n := k) (m := m') (al := al) (by exact hkl)).1 hmem
            have hax : al = 1 ∨ al = 2 ∨ al = 3 := by have := hnb.2.2; omega
            have hm' : m' < (grG f.g).N := hnb.2.1
            have hink := cellN_in hf.g.sz hkl
            have hinm := cellN_in hf.g.sz hm'
            have hz : c[m']? = some (c[m']'(by rw [hI.1.1.len]; exact hm')) := List.getElem?_eq_getElem _
            generalize c[m']'(by rw [hI.1.1.len]; exact hm') = z at hz
            have hw := hok.wt al
            show M_field_grow_L3 f x (cellN f.g k) kk (cellN f.g m') c b (fun l6 c6 => forIn' _ _ (r.map (fun e => cellN f.g e.1)) (kk + 1) (l6, c6))
            unfold M_field_grow_L3
            refine S_along hf.g.sz hink hinm ?_
            rw [show axC (cellN f.g k) (cellN f.g m') = al from axC_nb hnb]
            have key : ∀ n3 : Int, n3 = x + (grC f.g f.c).wt al → M_field_grow_k4 f (cellN f.g m') c b (fun l6 c6 => forIn' (fun kx x' (s : List Int × Bool) next => M_field_grow_L3 f x (cellN f.g k) kx x' s.1 s.2 (fun l6 c6 => next (l6, c6))) (fun (s : List Int × Bool) => (fun (l6 : List Int) (c6 : Bool) => Y (l6, c6, ((k + 1 : Nat) : Int))) s.1 s.2) (r.map (fun e => cellN f.g e.1)) (kk + 1) (l6, c6)) n3 := fun n3 hn3 => by
              subst hn3
              unfold M_field_grow_k4 M_field_grow_k5
              refine S_field_at hf.g.sz hinm ?_
              rw [numN_cellN]
              have less : z < 0 ∨ x + (grC f.g f.c).wt al < z → forIn' (fun kx x' (s : List Int × Bool) next => M_field_grow_L3 f x (cellN f.g k) kx x' s.1 s.2 (fun l6 c6 => next (l6, c6))) (fun (s : List Int × Bool) => (fun (l6 : List Int) (c6 : Bool) => Y (l6, c6, ((k + 1 : Nat) : Int))) s.1 s.2) (r.map (fun e => cellN f.g e.1)) (kk + 1) (c.set m' (x + (grC f.g f.c).wt al), true) := fun hlt =>
                ih (L ++ [(m', al)]) (kk + 1) _ _ (by rw [hL]; simp) (hI.less hok hnb hfree hz hlt)
              refine idx_nat hz (cnd_of (fun e3 => ?_) (fun e3 => ?_))
              · simp only [cnd_true]
                refine idx_nat hz ?_
                rw [Int.toNat_natCast]; exact less (.inl (by simpa using e3))
              · refine cnd_of (fun e4 => ?_) (fun e4 => ?_)
                · refine idx_nat hz ?_
                  rw [Int.toNat_natCast]; exact less (.inr (by simpa using e4))
                · exact ih (L ++ [(m', al)]) (kk + 1) _ _ (by rw [hL]; simp) (hI.keep hz (fun hh => by simp at e3 e4; omega))
            unfold Gr.wt at hw key
            have hv : (grC f.g f.c).via = f.c.Via := rfl
            have hst : (grC f.g f.c).step = f.c.Step := rfl
            rw [hv, hst] at hw key
            refine cnd_of (fun e3 => key _ ?_) (fun e3 => key _ ?_)
            · rw [if_pos (by simpa using e3)] at hw ⊢; exact w64_id (by omega) (by omega)
            · rw [if_neg (by simpa using e3)] at hw ⊢; exact w64_id (by omega) (by omega)
        exact loop _ [] 0 c b rfl ⟨hs, hx, hx0, fun _ e he => by cases he⟩
    · have hkl : k = (grG f.g).N := by simp at e; omega
      subst hkl
      exact hX c b hs
  · show M_field_grow_L1 f Q (fun l2 b2 => X (l2, b2)) c false
    unfold M_field_grow_L1
    simp only [cnd_false]; exact hc
end Go.Proofs.Ytihjaehkdgdenaa
