/- Chapter texts of ours, as far as the claim needs them. -/
import Derived.Test.YtfjcgoiedlimdaaGreatDoorRtR1
import Derived.Test.YtfjcgoiedlimdaaGreatDoorRtO2
import Derived.Test.YtfjcgoiedlimdaaGreatDoorRyE
namespace Go.Proofs.YtfjcgoiedlimdaaGreatDoor
open Go Go.RowKit
set_option linter.unusedVariables false
set_option linter.unusedSectionVars false
set_option linter.unusedSimpArgs false
section
variable {g : Grid} {c : gy}
theorem Ea (hg : GOk g) (hc : COk c) {s t : Nat} {k : Int} (hs : s < 3 * (grG g).N) (h : (t, k) ∈ (grC g c).E false s) :
    axC (gK g (s / 3)) (gK g (t / 3)) ≠ 0 ∧ uF c (gK g (t / 3)).Layer ((s % 3 : Nat) : Int) (axC (gK g (s / 3)) (gK g (t / 3))) = (k, ((t % 3 : Nat) : Int)) := by
  obtain ⟨al, hnb, hm, h1, h2⟩ := Gr.MW (G := grC g c) hs h
  have hax := Gr.Nb.ax hnb
  have ea : axC (gK g (s / 3)) (gK g (t / 3)) = al := Ja hnb
  rw [ea]
  refine ⟨by omega, ?_⟩
  by_cases h3 : al = 3
  · rw [if_pos h3] at h1 h2
    unfold uF
    rw [if_pos h3, h1, h2]; rfl
  · rw [if_neg h3] at h1 h2
    have := zT (uo hg hc) (n := t / 3) (last := ((s % 3 : Nat) : Int)) h3
    show uF c ((grC g c).Z (t / 3) : Int) _ _ = _
    rw [show uF c ((grC g c).Z (t / 3) : Int) ((s % 3 : Nat) : Int) al = _ from this, h1, h2]
    refine Prod.ext rfl ?_
    simp only; omega
def cellsS (g : Grid) (l : List Nat) : List Cell := l.map (fun s => gK g (s / 3))
theorem JQ {G : Gr} {s e : Nat} {l : List Nat} {k : Int} (h : G.Steps s l k e) : ∀ (i x y : Nat), (s :: l)[i]? = some x → (s :: l)[i + 1]? = some y → ∃ k, (y, k) ∈ G.E false x := by
  induction h with
  | nil => intro i x y hx hy; simp at hy
  | @cons s t k l k2 e he hr ih =>
    intro i x y hx hy
    cases i with
    | zero => simp at hx hy; subst hx; subst hy; exact ⟨k, he⟩
    | succ i => simp at hx hy; exact ih i x y (by simpa using hx) (by simpa using hy)
end
section
variable {f : eX}
theorem Qd {keys : List Int} {t s : Nat} {k x d found : Int} (hx : keys[t]? = some x) (hd : keys[s]? = some d) (hb : -1 ≤ x ∧ x ≤ 400000000000000) (hk : 0 ≤ k ∧ k ≤ 3000) {Q : Int → Prop} (h : Q (if found < 0 ∧ 0 ≤ x ∧ x + (k * kB + 1) = d then (t : Int) else found)) : Ai (t : Int) (k * kB + 1) found keys (s : Int) Q := by
  have hkB : kB = 1048576 := rfl
  unfold Ai xB
  refine fB (fun e => gG hx (fB (fun e2 => gG hd (fB (fun e3 => ?_) (fun e3 => ?_))) (fun e2 => ?_))) (fun e => ?_)
  · rw [fO (n := x + (k * kB + 1)) (by rw [hkB]; omega) (by rw [hkB]; omega)] at e3
    rw [if_pos ⟨by simpa using e, by simpa using e2, by simpa using e3⟩] at h; exact h
  · rw [fO (n := x + (k * kB + 1)) (by rw [hkB]; omega) (by rw [hkB]; omega)] at e3
    rw [if_neg (fun hh => by simp at e3; exact e3 hh.2.2)] at h; exact h
  · simp only [gY]; rw [if_neg (fun hh => by simp at e2; omega)] at h; exact h
  · simp only [gY]; rw [if_neg (fun hh => by simp at e; omega)] at h; exact h
theorem Qh {G : Gr} {b : Nat} {out : List Int} (h : G.lY b out) (hN : G.N ≤ 40000) {s : Nat} {d : Int} (hd : out[s]? = some d) : -1 ≤ d ∧ d ≤ 400000000000000 := by
  have hkB : kB = 1048576 := rfl
  refine ⟨h.least.low s d hd, ?_⟩
  by_cases h0 : 0 ≤ d
  · obtain ⟨c, n, w, e, h1, h2⟩ := h.least.way s d hd h0
    have hb := h.lt
    have hle := Wk.le (h.ok.good true) (fun s hs => by simp at hs; omega) w
    rw [hkB] at e; omega
  · omega
def fnd (o : Option (Nat × Int)) : Int := match o with | some e => (e.1 : Int) | none => -1
theorem Ik (out : List Int) (d : Int) (l : List (Nat × Int)) (e : Nat × Int) : fnd (Gr.pick out d (l ++ [e])) = if fnd (Gr.pick out d l) < 0 ∧ 0 ≤ out.getD e.1 (-1) ∧ out.getD e.1 (-1) + (e.2 * kB + 1) = d then (e.1 : Int) else fnd (Gr.pick out d l) := by
  unfold Gr.pick
  rw [List.find?_append]
  generalize hp : (fun e : Nat × Int => decide (0 ≤ out.getD e.1 (-1)) && decide (out.getD e.1 (-1) + (e.2 * kB + 1) = d)) = p
  have hpe : p e = decide (0 ≤ out.getD e.1 (-1) ∧ out.getD e.1 (-1) + (e.2 * kB + 1) = d) := by rw [← hp, Bool.decide_and]
  cases hq : List.find? p l with
  | some x =>
    rw [if_neg (fun hh => by have h1 : (x.1 : Int) < 0 := hh.1; omega)]; rfl
  | none =>
    rw [show (none : Option (Nat × Int)).or (List.find? p [e]) = List.find? p [e] from rfl, show fnd none = -1 from rfl]
    by_cases h : 0 ≤ out.getD e.1 (-1) ∧ out.getD e.1 (-1) + (e.2 * kB + 1) = d
    · rw [if_pos ⟨by decide, h⟩, List.find?_cons_of_pos (by rw [hpe]; exact decide_eq_true h)]; rfl
    · rw [if_neg (fun hh => h hh.2), List.find?_cons_of_neg (by rw [hpe]; simpa using h)]; rfl
theorem Lm (G : Gr) (s : Nat) (m : Nat) (al : Int) : G.el false s (m, al) = [(3 * m + (if al = 3 then s % 3 else al.toNat), if al = 3 then G.via else G.base (s / 3) al + G.tn ((s % 3 : Nat) : Int) al)] := by
  unfold Gr.el
  simp only
  by_cases h : al = 3
  · rw [if_pos h, if_pos h, if_pos h]
  · rw [if_neg h, if_neg h, if_neg h, if_neg (by simp)]
theorem Jt (hf : rf f) {b : Nat} {keys : List Int} (hT : (gu f).lY b keys) {s t : Nat} {d k : Int} (hs : s < 3 * (gu f).N) (hd : keys[s]? = some d) (hp : Gr.pick keys d ((gu f).E false s) = some (t, k)) {Q : Int → Prop} (h : Q (t : Int)) : wG f (s : Int) false (-1) keys (s : Int) Q := by
  have hN := hf.N
  have hW := hf.W
  have hH := hf.H
  have hkB : kB = 1048576 := rfl
  have hn : s / 3 < (gu f).N := by omega
  have e1 : w64 ((s : Int).tdiv 3) = ((s / 3 : Nat) : Int) := by rw [Int.tdiv_eq_ediv_of_nonneg (by omega), fO] <;> omega
  have e2 : (s : Int).tmod 3 = ((s % 3 : Nat) : Int) := by rw [Int.tmod_eq_emod_of_nonneg (by omega)]; omega
  have e3 : w64 ((w64 (((s / 3 : Nat) : Int).tdiv f.g.W)).tdiv f.g.H) = ((gu f).Z (s / 3) : Int) := by
    have e0 : w64 (((s / 3 : Nat) : Int).tdiv f.g.W) = ((s / 3 / (gu f).W : Nat) : Int) := by
      rw [hf.w, ← Int.ofNat_tdiv]; exact yj (Nat.le_trans (Nat.div_le_self _ _) (by omega))
    rw [e0, hf.h, ← Int.ofNat_tdiv]; exact yj (Nat.le_trans (Nat.div_le_self _ _) (Nat.le_trans (Nat.div_le_self _ _) (by omega)))
  unfold wG
  refine ⟨by omega, by omega, ?_⟩
  rw [e1, e2, e3]
  unfold yZ
  refine Lp hf hn (σ := Int) (s := -1) (fun t i => (t, i)) (fun m al t K => vF m al false f ((gu f).Z (s / 3) : Int) ((s % 3 : Nat) : Int) t keys (s : Int) K) (Q := fun z => Q z) (fun y1 X s i h => h) (fun R fd => ∃ L, (gu f).zV (s / 3) = L ++ R ∧ fd = fnd (Gr.pick keys d (L.flatMap ((gu f).el false s)))) (fun m al R fd K hnb hm hI hK => ?_) ⟨[], by simp, by simp [Gr.pick, fnd]⟩ (fun fd hI => ?_)
  · obtain ⟨L, hL, rfl⟩ := hI
    have hax := Gr.Nb.ax hnb
    have hmN := hnb.2.1
    -- the edge
    have hon := Gr.QA (G := gu f) hs hnb hm
    have hk := Gr.F8 hT.ok hs hon
    have hkey : ∀ (y : Int) (j : Nat), 3 * m + j < 3 * (gu f).N → (0 ≤ y ∧ y ≤ 3000) → (3 * m + j, y) ∈ (gu f).el false s (m, al) → Ai ((3 * m + j : Nat) : Int) (y * kB + 1) (fnd (Gr.pick keys d (L.flatMap ((gu f).el false s)))) keys (s : Int) K := by
      intro y j hj hy hmem
      have hx : keys[3 * m + j]? = some (keys[3 * m + j]'(by rw [hT.least.len]; exact hj)) := List.getElem?_eq_getElem _
      refine Qd hx hd (Qh hT hN hx) hy ?_
      refine hK _ ⟨L ++ [(m, al)], by rw [hL]; simp, ?_⟩
      rw [List.flatMap_append, List.flatMap_cons, List.flatMap_nil, List.append_nil]
      rw [Lm] at hmem ⊢
      rw [List.mem_singleton] at hmem
      rw [← hmem, Ik]
      simp only [Gr.getD_some hx]
    unfold vF
    show cnd true _ _
    simp only [iJ]
    refine Fj _ _ _ _ ?_
    rw [show w64 ((m : Int) * 3) = ((3 * m : Nat) : Int) by rw [fO] <;> omega]
    by_cases h3 : al = 3
    · subst h3
      simp only [if_true] at hk
      have es : uF f.c ((gu f).Z (s / 3) : Int) ((s % 3 : Nat) : Int) 3 = ((gu f).via, ((s % 3 : Nat) : Int)) := by unfold uF; rw [if_pos rfl]; rfl
      rw [es]
      simp only
      rw [show w64 (((3 * m : Nat) : Int) + ((s % 3 : Nat) : Int)) = ((3 * m + s % 3 : Nat) : Int) by rw [fO] <;> omega,
        show w64 ((w64 ((gu f).via * 1048576)) + 1) = (gu f).via * kB + 1 by rw [hkB, fO (n := (gu f).via * 1048576) (by omega) (by omega), fO] <;> omega]
      exact hkey _ (s % 3) (by omega) (by omega) (by rw [Lm]; simp)
    · rw [if_neg h3] at hk
      rw [if_neg h3] at hon
      have hb := Gr.Nb.base _ hnb
      rw [zT hf h3]
      simp only
      rw [hb]
      obtain ⟨j, rfl⟩ : ∃ j : Nat, al = (j : Int) := ⟨al.toNat, by omega⟩
      rw [show w64 (((3 * m : Nat) : Int) + (j : Int)) = ((3 * m + j : Nat) : Int) by rw [fO] <;> omega,
        show w64 ((w64 (((gu f).base m (j : Int) + (gu f).tn ((s % 3 : Nat) : Int) (j : Int)) * 1048576)) + 1) = ((gu f).base m (j : Int) + (gu f).tn ((s % 3 : Nat) : Int) (j : Int)) * kB + 1 by rw [hkB, fO (n := _ * 1048576) (by omega) (by omega), fO] <;> omega]
      exact hkey _ j (by omega) (by omega) (by rw [Lm, if_neg h3, if_neg h3, hb]; simp)
  · obtain ⟨L, hL, rfl⟩ := hI
    rw [List.append_nil] at hL
    have : Gr.pick keys d (L.flatMap ((gu f).el false s)) = some (t, k) := by rw [← hL]; exact hp
    rw [this]; exact h
theorem zW {b : Nat} {keys : List Int} {G : Gr} (hT : G.lY b keys) {s : Nat} {l : List Nat} (hg : G.Goes keys s l) {d : Int} (hd : keys[s]? = some d) (h0 : 0 ≤ d) : (s :: l).length ≤ G.N ∧ ∀ t ∈ s :: l, t < 3 * G.N ∧ G.no (t / 3) = false := by
  have hfs := hT.yg hd h0
  have hall : ∀ t ∈ s :: l, t < 3 * G.N ∧ G.no (t / 3) = false := fun t ht => by
    rcases List.mem_cons.1 ht with ht | ht
    · subst ht; exact hfs
    · obtain ⟨pre, c, d', _, _, h1, h2, _⟩ := hg.mem hd t ht
      exact hT.yg h1 h2
  have hn := hT.nodup hg hd h0
  have := jT G.N _ hn (fun x hx => by obtain ⟨t, ht, rfl⟩ := List.mem_map.1 hx; have := (hall t ht).1; omega)
  rw [List.length_map] at this
  exact ⟨this, hall⟩
theorem I5 (hf : rf f) {b : Nat} {keys : List Int} (hT : (gu f).lY b keys) {n : Nat} (hn : n < (gu f).N) {d : Int} (hd : keys[3 * n]? = some d) (h0 : 0 ≤ d) {Q : List Int → Prop} (h : ∀ l, (gu f).Goes keys (3 * n) l → Q ((3 * n :: l).map (fun t => ((t / 3 : Nat) : Int)))) : qo f (n : Int) keys Q := by
  have hN := hf.N
  obtain ⟨full, hfull⟩ := hT.goes _ _ _ hd h0 (Nat.le_refl _)
  have hlen := (zW hT hfull hd h0).1
  unfold qo
  refine oU (fun m (s : List Int × Int) => ∃ (pre : List Nat) (u : Nat) (rest : List Nat), s.2 = (u : Int) ∧ s.1 = (pre ++ [u]).map (fun t => ((t / 3 : Nat) : Int)) ∧ (gu f).Goes keys u rest ∧ pre ++ u :: rest = 3 * n :: full ∧ rest.length = m) (n := full.length) ⟨[], 3 * n, full, by rw [fO] <;> omega, by simp, hfull, rfl, rfl⟩ ?_
  rintro m ⟨l2, b2⟩ X ⟨pre, u, rest, h1, h2, h3, h4, h5⟩ hX
  simp only at h1 h2
  subst h1; subst h2
  show oG f keys Q (fun l2 b2 => X (l2, b2)) _ (u : Int)
  unfold oG
  have hpl : (pre ++ u :: rest).length ≤ (gu f).N := by rw [h4]; exact hlen
  cases h3 with
  | stop hu hz =>
    refine gG hu ?_
    rw [hz]
    show cnd false _ _
    simp only [gY]
    rw [h4]; exact h full hfull
  | @step _ t du k l hu hpos hp hg =>
    have hus := hT.yg hu (by omega)
    obtain ⟨he, d', g1, g2, g3⟩ := Gr.xA hp
    have hts := hT.yg g1 g2
    refine gG hu ?_
    rw [decide_eq_true hpos]
    simp only [iJ]
    refine Jt hf hT hus.1 hu hp ?_
    rw [show w64 ((t : Int).tdiv 3) = ((t / 3 : Nat) : Int) by rw [Int.tdiv_eq_ediv_of_nonneg (by omega), fO] <;> omega]
    simp only [List.length_append, List.length_cons] at hpl
    refine ⟨uJ (by simp only [List.length_append, List.length_map, List.length_singleton]; omega) (by decide), ?_⟩
    refine hX l.length _ (by rw [← h5]; simp) ⟨pre ++ [u], t, l, rfl, by simp, hg, by rw [List.append_assoc]; exact h4, rfl⟩
theorem FX (hf : rf f) {l : List Nat} (hl : ∀ t ∈ l, t < 3 * (gu f).N) (hlen : l.length ≤ 1000000) (hs : Sz f.g) {Q : List Cell → Prop} (h : Q (cellsS f.g l)) : lK f (l.map (fun t => ((t / 3 : Nat) : Int))) Q := by
  unfold lK
  refine jO (fun k (s : List Cell) => s = cellsS f.g (l.take k)) (by simp [cellsS]) (fun k x s hx hI next hn => ?_) (fun s hI => ?_)
  · rw [List.getElem?_map] at hx
    obtain ⟨t, ht, rfl⟩ := Option.map_eq_some_iff.1 hx
    have htl := hl t (List.mem_of_getElem? ht)
    have hk := dO ht
    unfold oN
    refine HY hs (n := t / 3) (by have h9 : t < 3 * (grG f.g).N := htl; omega) ?_
    subst hI
    refine ⟨uJ (by simp only [cellsS, List.length_append, List.length_map, List.length_take, List.length_singleton]; omega) (by decide), hn _ ?_⟩
    unfold cellsS
    rw [List.take_add_one, ht, List.map_append]; rfl
  · rw [List.length_map, List.take_length] at hI
    rw [hI]; exact h
end
section
variable {g : Grid} {c : gy}
theorem DX (hg : GOk g) (hc : COk c) {b : Cell} (hb : inG g b = true ∧ b ∉ g.Blocked) {out : List Int} (h : Least ((grC g c).E true) [3 * gq g b, 3 * gq g b + 1, 3 * gq g b + 2] (3 * (grG g).N) out) : (grC g c).lY (gq g b) out :=
  ⟨(uo hg hc).ok, (yS (c := c) hg hb).1, (yS (c := c) hg hb).2, h⟩
end
section
variable {g : Grid} {c : gy}
theorem KA (hg : GOk g) (hc : COk c) {s e : Nat} {l : List Nat} {k : Int} (h : (grC g c).Steps s l k e) (hs : s < 3 * (grG g).N) : F5 c ((s % 3 : Nat) : Int) (gK g (s / 3)) (cellsS g l) = k := by
  induction h with
  | nil => rfl
  | @cons s t k l k2 e he hr ih =>
    obtain ⟨_, h2⟩ := Ea hg hc hs he
    have ht := (Gr.MW (G := grC g c) hs he)
    obtain ⟨al, hnb, _⟩ := ht
    have := hnb.2.1
    have htl : t < 3 * (grG g).N := by have h9 : t / 3 < (grG g).N := hnb.2.1; omega
    have i := ih htl
    unfold cellsS at i ⊢
    rw [List.map_cons]
    unfold F5
    rw [h2, i]
theorem OH (hg : GOk g) {w : List Cell} (hne : w ≠ []) (hin : ∀ x ∈ w, inG g x = true ∧ x ∉ g.Blocked) (hch : ∀ (i : Nat) x y, w[i]? = some x → w[i + 1]? = some y → axC x y ≠ 0) (hnd : w.Nodup) : CO g w = 0 := by
  have hl : w.length ≤ 40000 := by
    have := jT (grG g).N (w.map (gq g)) (List.pairwise_map.2 (List.Pairwise.imp_of_mem (fun hx hy hne e => hne (yH hg.sz (hin _ hx).1 (hin _ hy).1 e)) hnd)) (fun s hs => by
      obtain ⟨x, hx, rfl⟩ := List.mem_map.1 hs
      exact oK hg.sz (hin x hx).1)
    rw [List.length_map] at this
    exact Nat.le_trans this hg.N
  unfold CO
  rw [if_neg (by simpa using hne), if_neg (by omega)]
  refine qV w 0 (fun j x hx => ?_)
  rw [Nat.zero_add]
  have hm := List.mem_of_getElem? hx
  have hlt := dO hx
  unfold Es
  rw [if_neg (by simp [(hin x hm).1]), if_neg (hin x hm).2, if_neg, if_neg]
  · intro ht
    obtain ⟨i, hi⟩ := List.getElem?_of_mem ht
    rw [List.getElem?_take] at hi
    split at hi
    · rename_i hij
      have := (List.getElem?_inj (dO hi) hnd).1 (hi.trans hx.symm)
      omega
    · cases hi
  · rintro ⟨h0, h1⟩
    obtain ⟨i, rfl⟩ : ∃ i, j = i + 1 := ⟨j - 1, by omega⟩
    have hp := FP hx (by omega)
    exact hch i _ x hp hx h1
end
section
variable {g : Grid} {c : gy}
theorem Nj (hg : GOk g) (hc : COk c) {b : Nat} {out : List Int} (hT : (grC g c).lY b out) {s : Nat} {d : Int} (hs3 : s % 3 = 0) (hd : out[s]? = some d) (h0 : 0 ≤ d) {l : List Nat} (hl : (grC g c).Goes out s l) :
    CO g (cellsS g (s :: l)) = 0 ∧ QD c (cellsS g (s :: l)) = d / kB ∧ (cellsS g (s :: l)).getLast? = some (gK g b) := by
  have hkB : kB = 1048576 := rfl
  obtain ⟨k, e, hst, hdk, he⟩ := hl.steps hd
  obtain ⟨hlen, hall⟩ := zW hT hl hd h0
  have hlen' : (s :: l).length ≤ (grG g).N := hlen
  have hN := hg.N
  have hsN : s < 3 * (grG g).N := (hall s List.mem_cons_self).1
  have hk := hst.cost hT.ok (hall s List.mem_cons_self).1
  have hfree : ∀ t ∈ s :: l, inG g (gK g (t / 3)) = true ∧ gK g (t / 3) ∉ g.Blocked := fun t ht => by
    obtain ⟨h1, h2⟩ := hall t ht
    have h1' : t / 3 < (grG g).N := by have : t < 3 * (grG g).N := h1; omega
    have hin := qP hg.sz h1'
    refine ⟨hin, fun hb => ?_⟩
    have h3 : (kS g).getD (t / 3) true = false := h2
    have h4 := Ba hg hin
    rw [jh] at h4
    rw [List.getD_eq_getElem?_getD, h4] at h3
    simp [hb] at h3
  refine ⟨OH hg (by simp [cellsS]) (fun x hx => ?_) (fun i x y hx hy => ?_) ?_, ?_, ?_⟩
  · obtain ⟨t, ht, rfl⟩ := List.mem_map.1 hx
    exact hfree t ht
  · unfold cellsS at hx hy
    rw [List.getElem?_map] at hx hy
    obtain ⟨t, ht, rfl⟩ := Option.map_eq_some_iff.1 hx
    obtain ⟨u, hu, rfl⟩ := Option.map_eq_some_iff.1 hy
    obtain ⟨k', hk'⟩ := JQ hst i t u ht hu
    have htN : t < 3 * (grG g).N := (hall t (List.mem_of_getElem? ht)).1
    exact (Ea hg hc htN hk').1
  · have := hT.nodup hl hd h0
    rw [show cellsS g (s :: l) = ((s :: l).map (· / 3)).map (gK g) by simp [cellsS]]
    exact List.pairwise_map.2 (this.imp (fun {x y} hne e => hne (by rw [← jh g x, e, jh])))
  · have := KA hg hc hst hsN
    rw [hs3] at this
    show F5 c 0 (gK g (s / 3)) (cellsS g l) = d / kB
    rw [show (((0 : Nat) : Int)) = 0 from rfl] at this
    rw [this, hdk, hkB]
    simp only [List.length_cons] at hlen'
    omega
  · have he3 := hT.end_ he
    have hlast : ∀ (l : List Nat) (s e : Nat) (k : Int), (grC g c).Steps s l k e → (s :: l).getLast (by simp) = e := by
      intro l s e k h
      induction h with
      | nil => rfl
      | cons _ hr ih => rw [List.getLast_cons (by simp)]; exact ih
    have h1 := hlast l s e k hst
    have h2 : (cellsS g (s :: l)).getLast? = some (gK g (e / 3)) := by
      unfold cellsS; rw [List.getLast?_map, List.getLast?_eq_some_getLast (by simp), h1]; rfl
    rw [h2]
    congr 2
    simp at he3; omega
end
end Go.Proofs.YtfjcgoiedlimdaaGreatDoor
