/- Chapter 7: pins, and costs that spread: plain laws. -/
import Derived.Test.YtihjaehkdgdenaaRtX0
import Derived.Test.YtihjaehkdgdenaaRtX1
import Derived.Test.YtihjaehkdgdenaaRtI
import Derived.Test.YtihjaehkdgdenaaRelax
namespace Go.Proofs.Ytihjaehkdgdenaa
open Go Go.RowKit
set_option linter.unusedVariables false
set_option linter.unusedSimpArgs false

def pinBad (g : Grid) (pins : List Cell) (k : Nat) (x : Cell) : Int := if inG g x = false then 1 else if x ∈ g.Blocked then 14 else if x ∈ pins.take k then 7 else 0
def pinsF (g : Grid) (pins : List Cell) (most : Int) : Int := if pins.length = 0 then 9 else if (pins.length : Int) > most then 2 else firstBad (pinBad g pins) pins 0
theorem S_route_checkPins {g : Grid} (hg : GOk g) {pins : List Cell} {most : Int} {Q : Int → Prop} (h : Q (pinsF g pins most)) : M_route_checkPins g (noOf g) pins most Q := by
  unfold M_route_checkPins
  unfold pinsF at h
  refine cnd_of (fun e => ?_) (fun e => cnd_of (fun e2 => ?_) (fun e2 => ?_))
  · rw [if_pos (by simpa using e)] at h; exact h
  · rw [if_neg (by simpa using e), if_pos (by simpa using e2)] at h; exact h
  · rw [if_neg (by simpa using e), if_neg (by simpa using e2)] at h
    refine forIn_checkP (Q := Q) (pinBad g pins) (fun k x next hx hI hne h0 => ?_) (by
      split
      · rename_i e9; rw [e9] at h; exact h
      · exact h)
    have hlt := lt_of_get hx
    unfold M_route_checkPins_L1
    refine S_isCell hg.sz ?_
    unfold pinBad at hne h0
    cases e6 : inG g x with
    | false => simp only [Bool.not_false, cnd_true]; rw [if_pos e6] at hne; exact hne (by decide)
    | true =>
      simp only [Bool.not_true, cnd_false]
      rw [if_neg (by simp [e6])] at hne h0
      refine S_number hg.sz e6 (idx_nat (noOf_cell hg e6) ?_)
      refine cnd_of (fun e7 => ?_) (fun e7 => ?_)
      · rw [if_pos (by simpa using e7)] at hne; exact hne (by decide)
      · rw [if_neg (by simpa using e7)] at hne h0
        refine ⟨⟨Int.le_refl _, by omega, by omega⟩, S_contains_cell ?_⟩
        have hseg : seg pins 0 (k : Int) = pins.take k := by unfold seg; simp
        rw [hseg]
        refine cnd_of (fun e8 => ?_) (fun e8 => ?_)
        · rw [if_pos (by simpa using e8)] at hne; exact hne (by decide)
        · rw [if_neg (by simpa using e8)] at h0; exact h0 rfl
theorem pinsF_zero {g : Grid} {pins : List Cell} {most : Int} (h : pinsF g pins most = 0) : 0 < pins.length ∧ (pins.length : Int) ≤ most ∧ pins.Nodup ∧ ∀ x ∈ pins, inG g x = true ∧ x ∉ g.Blocked := by
  unfold pinsF at h
  split at h
  · exact absurd h (by decide)
  · rename_i e1
    split at h
    · exact absurd h (by decide)
    · rename_i e2
      have hall : ∀ i x, pins[i]? = some x → inG g x = true ∧ x ∉ g.Blocked ∧ x ∉ pins.take i := fun i x hx => by
        have := firstBad_ok h i x hx
        unfold pinBad at this
        split at this
        · exact absurd this (by decide)
        · rename_i e3
          split at this
          · exact absurd this (by decide)
          · rename_i e4
            split at this
            · exact absurd this (by decide)
            · rename_i e5; exact ⟨by simpa using e3, e4, e5⟩
      refine ⟨by omega, by omega, ?_, fun x hx => ?_⟩
      · rw [List.nodup_iff_pairwise_ne, List.pairwise_iff_getElem]
        intro i j hi hj hij e
        have h1 := (hall j _ (List.getElem?_eq_getElem hj)).2.2
        exact h1 (List.mem_of_getElem? (i := i) (by rw [List.getElem?_take, if_pos hij, List.getElem?_eq_getElem hi, e]))
      · obtain ⟨i, hi⟩ := List.getElem?_of_mem hx
        have := hall i x hi
        exact ⟨this.1, this.2.1⟩
/-! ### costs that spread, in the program -/
/-- is no edge of a cell such that it would make a cost less -/
def Rlx (G : Gr) (c : List Int) (n : Nat) : Prop := ∀ x, c[n]? = some x → 0 ≤ x → ∀ e ∈ G.nbrs n, ∃ y, c[e.1]? = some y ∧ 0 ≤ y ∧ y ≤ x + G.wt e.2
/-- while a sweep goes on -/
def SwI (G : Gr) (M : Int) (l l2 : List Int) (k : Nat) (c : List Int) (b : Bool) : Prop :=
  G.RX M l c ∧ Gr.pot (M + G.N * 1000 + 1) c ≤ Gr.pot (M + G.N * 1000 + 1) l2 ∧ (b = true → Gr.pot (M + G.N * 1000 + 1) c < Gr.pot (M + G.N * 1000 + 1) l2) ∧ (b = false → ∀ n, n < k → Rlx G c n)
/-- while the edges of cell n are looked at: L done -/
def NbI (G : Gr) (M : Int) (l l2 : List Int) (n : Nat) (x : Int) (L : List (Nat × Int)) (c : List Int) (b : Bool) : Prop :=
  SwI G M l l2 n c b ∧ c[n]? = some x ∧ 0 ≤ x ∧ (b = false → ∀ e ∈ L, ∃ y, c[e.1]? = some y ∧ 0 ≤ y ∧ y ≤ x + G.wt e.2)
section
variable {G : Gr} {M : Int} {l l2 : List Int} {n : Nat} {x : Int} {L : List (Nat × Int)} {c : List Int} {b : Bool}
theorem NbI.keep (h : NbI G M l l2 n x L c b) {m : Nat} {al z : Int} (hz : c[m]? = some z) (h0 : ¬ (z < 0 ∨ x + G.wt al < z)) : NbI G M l l2 n x (L ++ [(m, al)]) c b :=
  ⟨h.1, h.2.1, h.2.2.1, fun hb e he => by
    rcases List.mem_append.1 he with he | he
    · exact h.2.2.2 hb e he
    · simp at he; subst he; exact ⟨z, hz, by omega, by simp only; omega⟩⟩
theorem NbI.less (ok : G.Ok) (h : NbI G M l l2 n x L c b) {m : Nat} {al z : Int} (hb : G.Nb n m al) (hm : G.no m = false) (hz : c[m]? = some z) (h0 : z < 0 ∨ x + G.wt al < z) : NbI G M l l2 n x (L ++ [(m, al)]) (c.set m (x + G.wt al)) true := by
  obtain ⟨⟨h1, h2, h3, h4⟩, h5, h6, h7⟩ := h
  obtain ⟨r1, r2, r3⟩ := h1.relax ok h5 h6 hb hm hz h0
  exact ⟨⟨r1, by omega, fun _ => by omega, fun e => (by cases e)⟩, by rw [List.getElem?_set_ne r3]; exact h5, h6, fun e => (by cases e)⟩
theorem NbI.close (h : NbI G M l l2 n x (G.nbrs n) c b) : SwI G M l l2 (n + 1) c b := by
  obtain ⟨⟨h1, h2, h3, h4⟩, h5, h6, h7⟩ := h
  refine ⟨h1, h2, h3, fun hb n' hn' => ?_⟩
  rcases Nat.lt_succ_iff_lt_or_eq.1 hn' with h8 | h8
  · exact h4 hb n' h8
  · subst h8
    intro x' hx' _ e he
    rw [h5] at hx'; injection hx' with hx'; subst hx'
    exact h7 hb e he
theorem SwI.skip (h : SwI G M l l2 n c b) (hx : c[n]? = some x) (h0 : x < 0) : SwI G M l l2 (n + 1) c b := by
  obtain ⟨h1, h2, h3, h4⟩ := h
  refine ⟨h1, h2, h3, fun hb n' hn' => ?_⟩
  rcases Nat.lt_succ_iff_lt_or_eq.1 hn' with h8 | h8
  · exact h4 hb n' h8
  · subst h8
    intro x' hx' h9
    rw [hx] at hx'; injection hx' with hx'; omega
theorem SwI.spr (ok : G.Ok) (h : SwI G M l l2 G.N c false) : G.Spr l c := by
  obtain ⟨h1, _, _, h4⟩ := h
  refine h1.done ok (fun n m al x hx h0 hb hm => ?_)
  exact h4 rfl n hb.1 x hx h0 (m, al) ((G.mem_nbrs hb.1).2 ⟨hb, hm⟩)
end
/-- the loop of both: sweep after sweep -/
theorem spread_loop {G : Gr} (ok : G.Ok) {M : Int} {l : List Int} (hl : G.RX M l l) {F : (List Int × Bool → Prop) → List Int × Bool → Prop} {Q : List Int → Prop}
    (hF : ∀ (X : List Int × Bool → Prop) (l2 : List Int), G.RX M l l2 → (∀ c b, SwI G M l l2 G.N c b → X (c, b)) → F X (l2, true)) (hQ : ∀ X c, Q c → F X (c, false)) (h : ∀ l', G.Spr l l' → (∀ (i : Nat) d, l'[i]? = some d → 0 ≤ d → d ≤ M + G.N * 1000) → Q l') : lp F (l, true) := by
  refine lp_measN (fun m (s : List Int × Bool) => G.RX M l s.1 ∧ (s.2 = false → G.Spr l s.1) ∧ m = 2 * Gr.pot (M + G.N * 1000 + 1) s.1 + (if s.2 = true then 1 else 0)) (n := 2 * Gr.pot (M + G.N * 1000 + 1) l + 1) ⟨hl, fun e => (by cases e), by simp⟩ ?_
  rintro m ⟨l2, b⟩ X ⟨h1, h2, h3⟩ hX
  simp only at h1 h2 h3
  cases b with
  | false => exact hQ X l2 (h l2 (h2 rfl) (fun i d hd h0 => by have := h1.le hd h0; omega))
  | true =>
    refine hF X l2 h1 (fun c b hs => ?_)
    cases b with
    | false => exact hX (2 * Gr.pot (M + G.N * 1000 + 1) c) _ (by have := hs.2.1; simp at h3; omega) ⟨hs.1, fun _ => hs.spr ok, by simp⟩
    | true => exact hX (2 * Gr.pot (M + G.N * 1000 + 1) c + 1) _ (by have := hs.2.2.1 rfl; simp at h3; omega) ⟨hs.1, fun e => (by cases e), by simp⟩
theorem S_spread1 {f : RouteFinder} (hf : GoodF f) {m : Nat} {al x z : Int} {c : List Int} {b : Bool} (hz : c[m]? = some z) (hx : 0 ≤ x ∧ x ≤ 1000000000000000) {Q : List Int → Bool → Prop} (h : if z < 0 ∨ x + (grOf f).wt al < z then Q (c.set m (x + (grOf f).wt al)) true else Q c b) : M_spread1 (m : Int) al x f c b Q := by
  have hw := hf.ok.wt al
  have key : ∀ n1 : Int, n1 = x + (grOf f).wt al → M_spread1_k1 (m : Int) c b Q n1 := fun n1 hn1 => by
    subst hn1
    unfold M_spread1_k1 M_spread1_k2
    refine idx_nat hz (cnd_of (fun e => ?_) (fun e => ?_))
    · rw [if_pos (.inl (by simpa using e))] at h
      simp only [cnd_true]
      refine idx_nat hz ?_
      rw [Int.toNat_natCast]; exact h
    · refine cnd_of (fun e2 => ?_) (fun e2 => ?_)
      · rw [if_pos (.inr (by simpa using e2))] at h
        refine idx_nat hz ?_
        rw [Int.toNat_natCast]; exact h
      · rw [if_neg (fun hh => by simp at e e2; omega)] at h; exact h
  unfold M_spread1
  unfold Gr.wt at hw key
  have hv : (grOf f).via = f.c.Via := rfl
  have hs : (grOf f).step = f.c.Step := rfl
  rw [hv, hs] at hw key
  refine cnd_of (fun e => key _ ?_) (fun e => key _ ?_)
  · rw [if_pos (by simpa using e)] at hw ⊢; exact w64_id (by omega) (by omega)
  · rw [if_neg (by simpa using e)] at hw ⊢; exact w64_id (by omega) (by omega)
theorem S_finder_spread {f : RouteFinder} (hf : GoodF f) {M : Int} (hM : 0 ≤ M ∧ M ≤ 100000000000) {l : List Int} (hl : l.length = (grOf f).N) (h1 : ∀ (i : Nat) d, l[i]? = some d → -1 ≤ d ∧ d ≤ M ∧ (0 ≤ d → (grOf f).no i = false)) {Q : List Int → Prop} (h : ∀ l', (grOf f).Spr l l' → (∀ (i : Nat) d, l'[i]? = some d → 0 ≤ d → d ≤ M + (grOf f).N * 1000) → Q l') : M_finder_spread f l Q := by
  have hN := hf.N
  unfold M_finder_spread
  refine spread_loop hf.ok (Gr.RX.init hl h1) (Q := Q) (fun X l2 hrx hX => ?_) (fun X c hc => ?_) h
  · show M_finder_spread_L1 f Q (fun l2 b2 => X (l2, b2)) l2 true
    unfold M_finder_spread_L1
    simp only [cnd_true]
    refine lp_measN (fun m (s : List Int × Bool × Int) => ∃ k : Nat, s.2.2 = (k : Int) ∧ k + m = (grOf f).N ∧ SwI (grOf f) M l l2 k s.1 s.2.1) (n := (grOf f).N) ⟨0, rfl, by omega, hrx, Nat.le_refl _, fun e => (by cases e), fun _ n hn => by omega⟩ ?_
    rintro m ⟨c, b, i⟩ Y ⟨k, hk, hkm, hs⟩ hY
    simp only at hk hs
    subst hk
    show M_finder_spread_L2 f l2 (fun l2 b2 => X (l2, b2)) (fun l4 b4 n2 => Y (l4, b4, n2)) c b (k : Int)
    unfold M_finder_spread_L2
    have hl2 : l2.length = (grOf f).N := hrx.len
    have ek : w64 ((k : Int) + 1) = ((k + 1 : Nat) : Int) := by rw [w64_id] <;> omega
    rw [hl2, ek]
    refine cnd_of (fun e => ?_) (fun e => ?_)
    · have hkl : k < (grOf f).N := by simpa using e
      have hx : c[k]? = some (c[k]'(by rw [hs.1.len]; exact hkl)) := List.getElem?_eq_getElem _
      generalize c[k]'(by rw [hs.1.len]; exact hkl) = x at hx
      refine idx_nat hx (cnd_of (fun e2 => ?_) (fun e2 => ?_))
      · exact hY (m - 1) _ (by omega) ⟨k + 1, rfl, by omega, hs.skip hx (by simpa using e2)⟩
      · have hx0 : 0 ≤ x := by simpa using e2
        have hle := hs.1.le hx hx0
        unfold M_near_spread
        refine S_nearL hf hkl (σ := List Int × Bool) (s := (c, b)) (fun t i => (t.1, t.2, i)) (fun m al t K => M_spread1 m al x f t.1 t.2 (fun a b => K (a, b))) (Q := fun t => Y (t.1, t.2, ((k + 1 : Nat) : Int))) (fun y1 X s i h => h)
          (fun R t => ∃ L, (grOf f).nbrs k = L ++ R ∧ NbI (grOf f) M l l2 k x L t.1 t.2) (fun m' al R t K hnb hfree hI hK => ?_) ⟨[], rfl, hs, hx, hx0, fun _ e he => by cases he⟩ (fun t hI => ?_)
        · obtain ⟨L, hL, hI⟩ := hI
          have hz : t.1[m']? = some (t.1[m']'(by rw [hI.1.1.len]; exact hnb.2.1)) := List.getElem?_eq_getElem _
          refine S_spread1 hf hz (by omega) ?_
          split
          · rename_i e3; exact hK _ ⟨L ++ [(m', al)], by rw [hL]; simp, hI.less hf.ok hnb hfree hz e3⟩
          · rename_i e3; exact hK _ ⟨L ++ [(m', al)], by rw [hL]; simp, hI.keep hz e3⟩
        · obtain ⟨L, hL, hI⟩ := hI
          rw [List.append_nil] at hL
          subst hL
          exact hY (m - 1) _ (by omega) ⟨k + 1, rfl, by omega, hI.close⟩
    · have hkl : k = (grOf f).N := by simp at e; omega
      subst hkl
      exact hX c b hs
  · show M_finder_spread_L1 f Q (fun l2 b2 => X (l2, b2)) c false
    unfold M_finder_spread_L1
    simp only [cnd_false]; exact hc
end Go.Proofs.Ytihjaehkdgdenaa
