/- Chapter 7: the least way: plain laws. -/
import Derived.Test.YtihjaehkdgdenaaRtR
import Derived.Test.YtihjaehkdgdenaaRtS
import Derived.Test.YtihjaehkdgdenaaRtO2
namespace Go.Proofs.Ytihjaehkdgdenaa
open Go Go.RowKit
set_option linter.unusedVariables false
set_option linter.unusedSimpArgs false

/-! ### all neighbours of a cell, and what is done with each -/
def oneM (f : RouteFinder) {σ : Type} (step : Int → Int → σ → (σ → Prop) → Prop) (c : Bool) (m al : Int) (K : σ → Prop) (s : σ) : Prop :=
  cnd c (idx f.no m fun x => cnd (!x) (step m al s K) (K s)) (cnd false (step m al s K) (K s))
def NearM (f : RouteFinder) (n : Int) {σ : Type} (step : Int → Int → σ → (σ → Prop) → Prop) (s : σ) (Q : σ → Prop) : Prop :=
  M_route_cell f.g n fun y1 => oneM f step (decide (y1.Layer > 0)) (w64 (n + (w64 ((w64 (-f.g.W)) * f.g.H)))) 3 (oneM f step (decide (y1.Y > 0)) (w64 (n + (w64 (-f.g.W)))) 2 (oneM f step (decide (y1.X > 0)) (w64 (n + (-1))) 1 (oneM f step (decide (y1.X < w64 (f.g.W - 1))) (w64 (n + 1)) 1 (oneM f step (decide (y1.Y < w64 (f.g.H - 1))) (w64 (n + f.g.W)) 2 (oneM f step (decide (y1.Layer < w64 (f.g.Layers - 1))) (w64 (n + (w64 (f.g.W * f.g.H)))) 3 Q))))) s
theorem near_way_eq (f : RouteFinder) (n : Int) (back : Bool) (f2 : RouteFinder) (layer last found : Int) (keys : List Int) (s_ : Int) (Q : Int → Prop) : M_near_way f n back f2 layer last found keys s_ Q = NearM f n (fun m al s K => M_steps1_way m al back f2 layer last s keys s_ K) found Q := rfl
section
variable {f : RouteFinder}
theorem S_nearM (hf : GoodF f) {n : Nat} (hn : n < (grOf f).N) {σ : Type} {step : Int → Int → σ → (σ → Prop) → Prop} (I : List (Nat × Int) → σ → Prop)
    (hstep : ∀ (m : Nat) (al : Int) R s K, (grOf f).Nb n m al → (grOf f).no m = false → I ((m, al) :: R) s → (∀ s', I R s' → K s') → step (m : Int) al s K) {s : σ} (hI : I ((grOf f).nbrs n) s) {Q : σ → Prop} (h : ∀ s', I [] s' → Q s') : NearM f (n : Int) step s Q := by
  have hN := hf.N
  have hx := (grOf f).X_lt hn
  have hy := (grOf f).Y_lt hn
  have hz := (grOf f).Z_lt hn
  have hW := hf.W
  have hH := hf.H
  have hL := hf.L
  have wh := hf.wh
  have hw := hf.w
  have hh := hf.h
  have hl := hf.l
  have hnum := (grOf f).num_self n
  have e0 : w64 ((n : Int).tdiv f.g.W) = ((n / (grOf f).W : Nat) : Int) := by
    rw [hw, ← Int.ofNat_tdiv]; exact w64_nat (Nat.le_trans (Nat.div_le_self _ _) (by omega))
  have cellX : (n : Int).tmod f.g.W = ((grOf f).X n : Int) := by rw [hw, ← Int.ofNat_tmod]; rfl
  have cellY : (w64 ((n : Int).tdiv f.g.W)).tmod f.g.H = ((grOf f).Y n : Int) := by rw [e0, hh, ← Int.ofNat_tmod]; rfl
  have cellZ : w64 ((w64 ((n : Int).tdiv f.g.W)).tdiv f.g.H) = ((grOf f).Z n : Int) := by
    rw [e0, hh, ← Int.ofNat_tdiv]; exact w64_nat (Nat.le_trans (Nat.div_le_self _ _) (Nat.le_trans (Nat.div_le_self _ _) (by omega)))
  have ewh : w64 (f.g.W * f.g.H) = (((grOf f).W * (grOf f).H : Nat) : Int) := by rw [hw, hh, ← Int.natCast_mul]; exact w64_id (by omega) (by omega)
  have enwh : w64 ((w64 (-f.g.W)) * f.g.H) = -(((grOf f).W * (grOf f).H : Nat) : Int) := by
    rw [w64_id (n := -f.g.W) (by omega) (by omega), hw, hh, Int.neg_mul, ← Int.natCast_mul]; exact w64_id (by omega) (by omega)
  have ew1 : w64 (f.g.W - 1) = (grOf f).W - 1 := by rw [hw]; exact w64_id (by omega) (by omega)
  have eh1 : w64 (f.g.H - 1) = (grOf f).H - 1 := by rw [hh]; exact w64_id (by omega) (by omega)
  have el1 : w64 (f.g.Layers - 1) = (grOf f).L - 1 := by rw [hl]; exact w64_id (by omega) (by omega)
  have enw : w64 (-f.g.W) = -((grOf f).W : Int) := by rw [hw]; exact w64_id (by omega) (by omega)
  -- the six of them
  have z0 : 0 < (grOf f).Z n → (grOf f).W * (grOf f).H ≤ n ∧ (grOf f).Nb n (n - (grOf f).W * (grOf f).H) 3 := fun hc => by
    obtain ⟨k, hk⟩ : ∃ k, (grOf f).Z n = k + 1 := ⟨(grOf f).Z n - 1, by omega⟩
    rw [hk, Gr.num_z] at hnum
    obtain ⟨a1, a2, a3, a4⟩ := (grOf f).nb_of (m := n - (grOf f).W * (grOf f).H) hn hx hy (z := k) (by omega) (by omega)
    exact ⟨by omega, hn, a1, .inr (.inr ⟨rfl, by omega, by omega, by omega⟩)⟩
  have y0 : 0 < (grOf f).Y n → (grOf f).W ≤ n ∧ (grOf f).Nb n (n - (grOf f).W) 2 := fun hc => by
    obtain ⟨k, hk⟩ : ∃ k, (grOf f).Y n = k + 1 := ⟨(grOf f).Y n - 1, by omega⟩
    rw [hk, Gr.num_y] at hnum
    obtain ⟨a1, a2, a3, a4⟩ := (grOf f).nb_of (m := n - (grOf f).W) hn hx (y := k) (by omega) hz (by omega)
    exact ⟨by omega, hn, a1, .inr (.inl ⟨rfl, by omega, by omega, by omega⟩)⟩
  have x0 : 0 < (grOf f).X n → 1 ≤ n ∧ (grOf f).Nb n (n - 1) 1 := fun hc => by
    obtain ⟨k, hk⟩ : ∃ k, (grOf f).X n = k + 1 := ⟨(grOf f).X n - 1, by omega⟩
    rw [hk, Gr.num_x] at hnum
    obtain ⟨a1, a2, a3, a4⟩ := (grOf f).nb_of (m := n - 1) hn (x := k) (by omega) hy hz (by omega)
    exact ⟨by omega, hn, a1, .inl ⟨rfl, by omega, by omega, by omega⟩⟩
  have x1 : (grOf f).X n + 1 < (grOf f).W → (grOf f).Nb n (n + 1) 1 := fun hc => by
    obtain ⟨a1, a2, a3, a4⟩ := (grOf f).nb_of (m := n + 1) hn hc hy hz (by rw [Gr.num_x, hnum])
    exact ⟨hn, a1, .inl ⟨rfl, by omega, by omega, by omega⟩⟩
  have y1 : (grOf f).Y n + 1 < (grOf f).H → (grOf f).Nb n (n + (grOf f).W) 2 := fun hc => by
    obtain ⟨a1, a2, a3, a4⟩ := (grOf f).nb_of (m := n + (grOf f).W) hn hx hc hz (by rw [Gr.num_y, hnum])
    exact ⟨hn, a1, .inr (.inl ⟨rfl, by omega, by omega, by omega⟩)⟩
  have z1 : (grOf f).Z n + 1 < (grOf f).L → (grOf f).Nb n (n + (grOf f).W * (grOf f).H) 3 := fun hc => by
    obtain ⟨a1, a2, a3, a4⟩ := (grOf f).nb_of (m := n + (grOf f).W * (grOf f).H) hn hx hy hc (by rw [Gr.num_z, hnum])
    exact ⟨hn, a1, .inr (.inr ⟨rfl, by omega, by omega, by omega⟩)⟩
  have one : ∀ (c c' : Bool) (mI : Int) (m : Nat) (al : Int) (R : List (Nat × Int)) (K : σ → Prop) (s : σ), c = c' → (c' = true → mI = (m : Int) ∧ (grOf f).Nb n m al) → I ((grOf f).nb1 c' m al ++ R) s → (∀ s', I R s' → K s') → oneM f step c mI al K s := by
    intro c c' mI m al R K s hcc hm hI hK
    subst hcc
    unfold oneM
    refine nb_one hf (m := m) (fun e => ⟨(hm e).1, (hm e).2.2.1⟩) (k := fun b => cnd b (step mI al s K) (K s)) (fun b => rfl) ?_
    unfold Gr.nb1 at hI
    split
    · rename_i e
      rw [if_pos e] at hI
      rw [(hm e.1).1]
      exact hstep m al R s K (hm e.1).2 e.2 hI hK
    · rename_i e
      rw [if_neg e] at hI
      exact hK s hI
  unfold NearM M_route_cell
  refine ⟨by omega, by omega, by omega, by omega, by omega, ?_⟩
  rw [cellX, cellY, cellZ, ewh, enwh, ew1, eh1, el1, enw]
  simp only
  unfold Gr.nbrs at hI
  refine one _ (decide (0 < (grOf f).Z n)) _ (n - (grOf f).W * (grOf f).H) 3 _ _ s (decide_eq_decide.2 (by omega)) (fun e => ?_) hI (fun s hI => ?_)
  · have := z0 (by simpa using e); exact ⟨by rw [w64_id] <;> omega, this.2⟩
  refine one _ (decide (0 < (grOf f).Y n)) _ (n - (grOf f).W) 2 _ _ s (decide_eq_decide.2 (by omega)) (fun e => ?_) hI (fun s hI => ?_)
  · have := y0 (by simpa using e); exact ⟨by rw [w64_id] <;> omega, this.2⟩
  refine one _ (decide (0 < (grOf f).X n)) _ (n - 1) 1 _ _ s (decide_eq_decide.2 (by omega)) (fun e => ?_) hI (fun s hI => ?_)
  · have := x0 (by simpa using e); exact ⟨by rw [w64_id] <;> omega, this.2⟩
  refine one _ (decide ((grOf f).X n + 1 < (grOf f).W)) _ (n + 1) 1 _ _ s (decide_eq_decide.2 (by omega)) (fun e => ?_) hI (fun s hI => ?_)
  · exact ⟨by rw [w64_id] <;> omega, x1 (by simpa using e)⟩
  refine one _ (decide ((grOf f).Y n + 1 < (grOf f).H)) _ (n + (grOf f).W) 2 _ _ s (decide_eq_decide.2 (by omega)) (fun e => ?_) hI (fun s hI => ?_)
  · exact ⟨by rw [hw, w64_id] <;> omega, y1 (by simpa using e)⟩
  refine one _ (decide ((grOf f).Z n + 1 < (grOf f).L)) _ (n + (grOf f).W * (grOf f).H) 3 [] _ s (decide_eq_decide.2 (by omega)) (fun e => ?_) (by rw [List.append_nil]; exact hI) (fun s hI => h s hI)
  exact ⟨by rw [w64_id] <;> omega, z1 (by simpa using e)⟩
/-! ### the program's way -/
theorem S_way1 {keys : List Int} {t s : Nat} {k x d found : Int} (hx : keys[t]? = some x) (hd : keys[s]? = some d) (hb : -1 ≤ x ∧ x ≤ 400000000000000) (hk : 0 ≤ k ∧ k ≤ 3000) {Q : Int → Prop} (h : Q (if found < 0 ∧ 0 ≤ x ∧ x + (k * kB + 1) = d then (t : Int) else found)) : M_way1 (t : Int) (k * kB + 1) found keys (s : Int) Q := by
  have hkB : kB = 1048576 := rfl
  unfold M_way1 M_way1_k1
  refine cnd_of (fun e => idx_nat hx (cnd_of (fun e2 => idx_nat hd (cnd_of (fun e3 => ?_) (fun e3 => ?_))) (fun e2 => ?_))) (fun e => ?_)
  · rw [w64_id (n := x + (k * kB + 1)) (by rw [hkB]; omega) (by rw [hkB]; omega)] at e3
    rw [if_pos ⟨by simpa using e, by simpa using e2, by simpa using e3⟩] at h; exact h
  · rw [w64_id (n := x + (k * kB + 1)) (by rw [hkB]; omega) (by rw [hkB]; omega)] at e3
    rw [if_neg (fun hh => by simp at e3; exact e3 hh.2.2)] at h; exact h
  · simp only [cnd_false]; rw [if_neg (fun hh => by simp at e2; omega)] at h; exact h
  · simp only [cnd_false]; rw [if_neg (fun hh => by simp at e; omega)] at h; exact h
theorem key_le {G : Gr} {b : Nat} {out : List Int} (h : G.ToGoal b out) (hN : G.N ≤ 40000) {s : Nat} {d : Int} (hd : out[s]? = some d) : -1 ≤ d ∧ d ≤ 400000000000000 := by
  have hkB : kB = 1048576 := rfl
  refine ⟨h.least.low s d hd, ?_⟩
  by_cases h0 : 0 ≤ d
  · obtain ⟨c, n, w, e, h1, h2⟩ := h.least.way s d hd h0
    have hb := h.lt
    have hle := Wk.le (h.ok.good true) (fun s hs => by simp at hs; omega) w
    rw [hkB] at e; omega
  · omega
/-- what has been found so far -/
def fnd (o : Option (Nat × Int)) : Int := match o with | some e => (e.1 : Int) | none => -1
theorem pick_snoc (out : List Int) (d : Int) (l : List (Nat × Int)) (e : Nat × Int) : fnd (Gr.pick out d (l ++ [e])) = if fnd (Gr.pick out d l) < 0 ∧ 0 ≤ out.getD e.1 (-1) ∧ out.getD e.1 (-1) + (e.2 * kB + 1) = d then (e.1 : Int) else fnd (Gr.pick out d l) := by
  unfold Gr.pick
  rw [List.find?_append]
  generalize hp : (fun e : Nat × Int => decide (0 ≤ out.getD e.1 (-1)) && decide (out.getD e.1 (-1) + (e.2 * kB + 1) = d)) = p
  have hpe : p e = decide (0 ≤ out.getD e.1 (-1) ∧ out.getD e.1 (-1) + (e.2 * kB + 1) = d) := by rw [← hp, Bool.decide_and]
  cases hq : List.find? p l with
  | some x =>
    rw [if_neg (fun hh => by have h1 : (x.1 : Int) < 0 := hh.1; omega)]; rfl
  | none =>
    rw [show (none : Option (Nat × Int)).or (List.find? p [e]) = List.find? p [e] from rfl, show fnd none = -1 from rfl]
    by_cases h : 0 ≤ out.getD e.1 (-1) ∧ out.getD e.1 (-1) + (e.2 * kB + 1) = d
    · rw [if_pos ⟨by decide, h⟩, List.find?_cons_of_pos (by rw [hpe]; exact decide_eq_true h)]; rfl
    · rw [if_neg (fun hh => h hh.2), List.find?_cons_of_neg (by rw [hpe]; simpa using h)]; rfl
theorem el_on (G : Gr) (s : Nat) (m : Nat) (al : Int) : G.el false s (m, al) = [(3 * m + (if al = 3 then s % 3 else al.toNat), if al = 3 then G.via else G.base (s / 3) al + G.tn ((s % 3 : Nat) : Int) al)] := by
  unfold Gr.el
  simp only
  by_cases h : al = 3
  · rw [if_pos h, if_pos h, if_pos h]
  · rw [if_neg h, if_neg h, if_neg h, if_neg (by simp)]
theorem S_steps_way (hf : GoodF f) {b : Nat} {keys : List Int} (hT : (grOf f).ToGoal b keys) {s t : Nat} {d k : Int} (hs : s < 3 * (grOf f).N) (hd : keys[s]? = some d) (hp : Gr.pick keys d ((grOf f).E false s) = some (t, k)) {Q : Int → Prop} (h : Q (t : Int)) : M_steps_way f (s : Int) false (-1) keys (s : Int) Q := by
  have hN := hf.N
  have hW := hf.W
  have hH := hf.H
  have hkB : kB = 1048576 := rfl
  have hn : s / 3 < (grOf f).N := by omega
  have e1 : w64 ((s : Int).tdiv 3) = ((s / 3 : Nat) : Int) := by rw [Int.tdiv_eq_ediv_of_nonneg (by omega), w64_id] <;> omega
  have e2 : (s : Int).tmod 3 = ((s % 3 : Nat) : Int) := by rw [Int.tmod_eq_emod_of_nonneg (by omega)]; omega
  have e3 : w64 ((w64 (((s / 3 : Nat) : Int).tdiv f.g.W)).tdiv f.g.H) = ((grOf f).Z (s / 3) : Int) := by
    have e0 : w64 (((s / 3 : Nat) : Int).tdiv f.g.W) = ((s / 3 / (grOf f).W : Nat) : Int) := by
      rw [hf.w, ← Int.ofNat_tdiv]; exact w64_nat (Nat.le_trans (Nat.div_le_self _ _) (by omega))
    rw [e0, hf.h, ← Int.ofNat_tdiv]; exact w64_nat (Nat.le_trans (Nat.div_le_self _ _) (Nat.le_trans (Nat.div_le_self _ _) (by omega)))
  unfold M_steps_way
  refine ⟨by omega, by omega, ?_⟩
  rw [e1, e2, e3, near_way_eq]
  refine S_nearM hf hn (fun R fd => ∃ L, (grOf f).nbrs (s / 3) = L ++ R ∧ fd = fnd (Gr.pick keys d (L.flatMap ((grOf f).el false s)))) (fun m al R fd K hnb hm hI hK => ?_) ⟨[], by simp, by simp [Gr.pick, fnd]⟩ (fun fd hI => ?_)
  · obtain ⟨L, hL, rfl⟩ := hI
    have hax := Gr.Nb.ax hnb
    have hmN := hnb.2.1
    -- the edge
    have hon := Gr.on_E (G := grOf f) hs hnb hm
    have hk := Gr.E_cost hT.ok hs hon
    have hkey : ∀ (y : Int) (j : Nat), 3 * m + j < 3 * (grOf f).N → (0 ≤ y ∧ y ≤ 3000) → (3 * m + j, y) ∈ (grOf f).el false s (m, al) → M_way1 ((3 * m + j : Nat) : Int) (y * kB + 1) (fnd (Gr.pick keys d (L.flatMap ((grOf f).el false s)))) keys (s : Int) K := by
      intro y j hj hy hmem
      have hx : keys[3 * m + j]? = some (keys[3 * m + j]'(by rw [hT.least.len]; exact hj)) := List.getElem?_eq_getElem _
      refine S_way1 hx hd (key_le hT hN hx) hy ?_
      refine hK _ ⟨L ++ [(m, al)], by rw [hL]; simp, ?_⟩
      rw [List.flatMap_append, List.flatMap_cons, List.flatMap_nil, List.append_nil]
      rw [el_on] at hmem ⊢
      rw [List.mem_singleton] at hmem
      rw [← hmem, pick_snoc]
      simp only [Gr.getD_some hx]
    unfold M_steps1_way
    show cnd true _ _
    simp only [cnd_true]
    refine E_stepC _ _ _ _ ?_
    rw [show w64 ((m : Int) * 3) = ((3 * m : Nat) : Int) by rw [w64_id] <;> omega]
    by_cases h3 : al = 3
    · subst h3
      simp only [if_true] at hk
      have es : stepC f.c ((grOf f).Z (s / 3) : Int) ((s % 3 : Nat) : Int) 3 = ((grOf f).via, ((s % 3 : Nat) : Int)) := by unfold stepC; rw [if_pos rfl]; rfl
      rw [es]
      simp only
      rw [show w64 (((3 * m : Nat) : Int) + ((s % 3 : Nat) : Int)) = ((3 * m + s % 3 : Nat) : Int) by rw [w64_id] <;> omega,
        show w64 ((w64 ((grOf f).via * 1048576)) + 1) = (grOf f).via * kB + 1 by rw [hkB, w64_id (n := (grOf f).via * 1048576) (by omega) (by omega), w64_id] <;> omega]
      exact hkey _ (s % 3) (by omega) (by omega) (by rw [el_on]; simp)
    · rw [if_neg h3] at hk
      rw [if_neg h3] at hon
      have hb := Gr.Nb.base _ hnb
      rw [stepC_gr hf h3]
      simp only
      rw [hb]
      obtain ⟨j, rfl⟩ : ∃ j : Nat, al = (j : Int) := ⟨al.toNat, by omega⟩
      rw [show w64 (((3 * m : Nat) : Int) + (j : Int)) = ((3 * m + j : Nat) : Int) by rw [w64_id] <;> omega,
        show w64 ((w64 (((grOf f).base m (j : Int) + (grOf f).tn ((s % 3 : Nat) : Int) (j : Int)) * 1048576)) + 1) = ((grOf f).base m (j : Int) + (grOf f).tn ((s % 3 : Nat) : Int) (j : Int)) * kB + 1 by rw [hkB, w64_id (n := _ * 1048576) (by omega) (by omega), w64_id] <;> omega]
      exact hkey _ j (by omega) (by omega) (by rw [el_on, if_neg h3, if_neg h3, hb]; simp)
  · obtain ⟨L, hL, rfl⟩ := hI
    rw [List.append_nil] at hL
    have : Gr.pick keys d (L.flatMap ((grOf f).el false s)) = some (t, k) := by rw [← hL]; exact hp
    rw [this]; exact h
theorem goes_len {b : Nat} {keys : List Int} {G : Gr} (hT : G.ToGoal b keys) {s : Nat} {l : List Nat} (hg : G.Goes keys s l) {d : Int} (hd : keys[s]? = some d) (h0 : 0 ≤ d) : (s :: l).length ≤ G.N ∧ ∀ t ∈ s :: l, t < 3 * G.N ∧ G.no (t / 3) = false := by
  have hfs := hT.free_of hd h0
  have hall : ∀ t ∈ s :: l, t < 3 * G.N ∧ G.no (t / 3) = false := fun t ht => by
    rcases List.mem_cons.1 ht with ht | ht
    · subst ht; exact hfs
    · obtain ⟨pre, c, d', _, _, h1, h2, _⟩ := hg.mem hd t ht
      exact hT.free_of h1 h2
  have hn := hT.nodup hg hd h0
  have := nodup_len G.N _ hn (fun x hx => by obtain ⟨t, ht, rfl⟩ := List.mem_map.1 hx; have := (hall t ht).1; omega)
  rw [List.length_map] at this
  exact ⟨this, hall⟩
theorem S_finder_way (hf : GoodF f) {b : Nat} {keys : List Int} (hT : (grOf f).ToGoal b keys) {n : Nat} (hn : n < (grOf f).N) {d : Int} (hd : keys[3 * n]? = some d) (h0 : 0 ≤ d) {Q : List Int → Prop} (h : ∀ l, (grOf f).Goes keys (3 * n) l → Q ((3 * n :: l).map (fun t => ((t / 3 : Nat) : Int)))) : M_finder_way f (n : Int) keys Q := by
  have hN := hf.N
  obtain ⟨full, hfull⟩ := hT.goes _ _ _ hd h0 (Nat.le_refl _)
  have hlen := (goes_len hT hfull hd h0).1
  unfold M_finder_way
  refine lp_measN (fun m (s : List Int × Int) => ∃ (pre : List Nat) (u : Nat) (rest : List Nat), s.2 = (u : Int) ∧ s.1 = (pre ++ [u]).map (fun t => ((t / 3 : Nat) : Int)) ∧ (grOf f).Goes keys u rest ∧ pre ++ u :: rest = 3 * n :: full ∧ rest.length = m) (n := full.length) ⟨[], 3 * n, full, by rw [w64_id] <;> omega, by simp, hfull, rfl, rfl⟩ ?_
  rintro m ⟨l2, b2⟩ X ⟨pre, u, rest, h1, h2, h3, h4, h5⟩ hX
  simp only at h1 h2
  subst h1; subst h2
  show M_finder_way_L1 f keys Q (fun l2 b2 => X (l2, b2)) _ (u : Int)
  unfold M_finder_way_L1
  have hpl : (pre ++ u :: rest).length ≤ (grOf f).N := by rw [h4]; exact hlen
  cases h3 with
  | stop hu hz =>
    refine idx_nat hu ?_
    rw [hz]
    show cnd false _ _
    simp only [cnd_false]
    rw [h4]; exact h full hfull
  | @step _ t du k l hu hpos hp hg =>
    have hus := hT.free_of hu (by omega)
    obtain ⟨he, d', g1, g2, g3⟩ := Gr.pick_some hp
    have hts := hT.free_of g1 g2
    refine idx_nat hu ?_
    rw [decide_eq_true hpos]
    simp only [cnd_true]
    refine S_steps_way hf hT hus.1 hu hp ?_
    rw [show w64 ((t : Int).tdiv 3) = ((t / 3 : Nat) : Int) by rw [Int.tdiv_eq_ediv_of_nonneg (by omega), w64_id] <;> omega]
    simp only [List.length_append, List.length_cons] at hpl
    refine ⟨room_of (by simp only [List.length_append, List.length_map, List.length_singleton]; omega) (by decide), ?_⟩
    refine hX l.length _ (by rw [← h5]; simp) ⟨pre ++ [u], t, l, rfl, by simp, hg, by rw [List.append_assoc]; exact h4, rfl⟩
theorem S_finder_cells (hf : GoodF f) {l : List Nat} (hl : ∀ t ∈ l, t < 3 * (grOf f).N) (hlen : l.length ≤ 1000000) (hs : Sz f.g) {Q : List Cell → Prop} (h : Q (cellsS f.g l)) : M_finder_cells f (l.map (fun t => ((t / 3 : Nat) : Int))) Q := by
  unfold M_finder_cells
  refine forIn0 (fun k (s : List Cell) => s = cellsS f.g (l.take k)) (by simp [cellsS]) (fun k x s hx hI next hn => ?_) (fun s hI => ?_)
  · rw [List.getElem?_map] at hx
    obtain ⟨t, ht, rfl⟩ := Option.map_eq_some_iff.1 hx
    have htl := hl t (List.mem_of_getElem? ht)
    have hk := lt_of_get ht
    unfold M_finder_cells_L1
    refine S_cell_at hs (n := t / 3) (by have h9 : t < 3 * (grG f.g).N := htl; omega) ?_
    subst hI
    refine ⟨room_of (by simp only [cellsS, List.length_append, List.length_map, List.length_take, List.length_singleton]; omega) (by decide), hn _ ?_⟩
    unfold cellsS
    rw [List.take_add_one, ht, List.map_append]; rfl
  · rw [List.length_map, List.take_length] at hI
    rw [hI]; exact h
end
section
variable {g : Grid} {c : Costs}
theorem toGoal_of (hg : GOk g) (hc : COk c) {b : Cell} (hb : inG g b = true ∧ b ∉ g.Blocked) {out : List Int} (h : Least ((grC g c).E true) [3 * numN g b, 3 * numN g b + 1, 3 * numN g b + 2] (3 * (grG g).N) out) : (grC g c).ToGoal (numN g b) out :=
  ⟨(goodF_of hg hc).ok, (free_cell (c := c) hg hb).1, (free_cell (c := c) hg hb).2, h⟩
/-- the way's answer, by the keys up to its end -/
def WayAns (g : Grid) (c : Costs) (a : Cell) (out : List Int) (Q : List Cell → Bool → Int → Prop) : Prop :=
  ∀ d, out[3 * numN g a]? = some d → (d < 0 → Q [] false 0) ∧ (0 ≤ d → ∀ l, (grC g c).Goes out (3 * numN g a) l → Q (cellsS g (3 * numN g a :: l)) true 0)
theorem S_Way {a b : Cell} {Q : List Cell → Bool → Int → Prop} (h1 : findF g c [a, b] ≠ 0 → Q [] false (findF g c [a, b]))
    (h0 : findF g c [a, b] = 0 → ∀ out, (grC g c).ToGoal (numN g b) out → WayAns g c a out Q) : M_route_Way g c a b Q := by
  unfold M_route_Way
  refine S_find (fun e => ⟨fun _ => ?_, fun x hx => by cases hx⟩) (fun e => ⟨fun hx => (by cases hx), fun x hx => ?_⟩)
  · refine cnd_of (fun _ => h1 e) (fun e2 => absurd (by simpa using e2) e)
  · injection hx with hx; subst hx
    obtain ⟨hg, hc, hl⟩ := findF_zero e
    have ha := hl a (by simp)
    have hb := hl b (by simp)
    have hna := numN_lt hg.sz ha.1
    have hnb := numN_lt hg.sz hb.1
    have hN := hg.N
    have hf := goodF_of hg hc
    show cnd false _ _
    simp only [cnd_false]
    refine S_number hg.sz hb.1 ?_
    refine S_to hf hnb (fun out hout => ?_)
    have hT := toGoal_of hg hc hb hout
    refine S_number hg.sz ha.1 ?_
    rw [show w64 (3 * (numN g a : Int)) = ((3 * numN g a : Nat) : Int) by rw [w64_id] <;> omega]
    have hd : out[3 * numN g a]? = some (out[3 * numN g a]'(by have := hout.len; rw [this]; show _ < 3 * (grG g).N; omega)) := List.getElem?_eq_getElem _
    refine idx_nat hd ?_
    obtain ⟨hA, hB⟩ := h0 e out hT _ hd
    refine cnd_of (fun e2 => hA (by simpa using e2)) (fun e2 => ?_)
    have e3 : 0 ≤ out[3 * numN g a]'(by have := hout.len; rw [this]; show _ < 3 * (grG g).N; omega) := by simpa using e2
    refine S_finder_way (f := ⟨g, c, noOf g⟩) hf hT hna hd e3 (fun l hgo => ?_)
    have hgl := goes_len hT hgo hd e3
    exact S_finder_cells (f := ⟨g, c, noOf g⟩) hf (fun t ht => (hgl.2 t ht).1) (by have h9 : (3 * numN g a :: l).length ≤ (grG g).N := hgl.1; omega) hg.sz (hB e3 l hgo)
end
end Go.Proofs.Ytihjaehkdgdenaa
