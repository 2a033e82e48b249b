/- Chapter texts of ours, as far as the claim needs them. -/
import Derived.Test.YtfjcgoiedlimdaaGreatDoorRuD
import Derived.Test.YtfjcgoiedlimdaaGreatDoorRzD
import Derived.Test.YtfjcgoiedlimdaaGreatDoorRtU2
import Derived.Test.YtfjcgoiedlimdaaGreatDoorRyE
namespace Go.Proofs.YtfjcgoiedlimdaaGreatDoor
open Go Go.RowKit
set_option linter.unusedVariables false
set_option linter.unusedSectionVars false
set_option linter.unusedSimpArgs false
section
variable {g : Grid} {c : gy} {pins : List Cell}
theorem AP (hs : Sz g) {T : List Nat} {p : Cell} (hp : inG g p = true) : p ∈ T.map (gK g) ↔ gq g p ∈ T := by
  constructor
  · intro h
    obtain ⟨n, hn, rfl⟩ := List.mem_map.1 h
    rw [jh]; exact hn
  · intro h; exact List.mem_map.2 ⟨_, h, xM hs hp⟩
theorem wS (hg : GOk g) (hc : COk c) {b : Nat} {best : List fC} (hf : BA g c b best) {n : Nat} (hn : n < (grG g).N) {Q : fC → Prop} (h : ∀ w, best[3 * n]? = some w → (best.map kW)[3 * n]? = some (kW w) → Q w) : oO ⟨g, c, kS g, best⟩ (gK g n) Q := by
  have hN := hg.N
  obtain ⟨w, hw, hk⟩ := Iw hg hf (s := 3 * n) (by omega)
  unfold oO
  refine sD (f := ⟨g, c, kS g, best⟩) hg.sz (qP hg.sz hn) ?_
  rw [jh, show w64 (3 * (n : Int)) = ((3 * n : Nat) : Int) by rw [fO] <;> omega]
  exact gG hw (h w hw hk)
structure Dx (keys : List Int) (T : List Nat) (start : Nat) (d : Int) : Prop where
  mem : start ∈ T
  key : keys[3 * start]? = some d
  pos : 0 ≤ d
  least : ∀ a ∈ T, ∀ k, keys[3 * a]? = some k → 0 ≤ k → d ≤ k ∧ (k = d → start ≤ a)
theorem Nq (hg : GOk g) (hc : COk c) {b : Nat} {best : List fC} (hf : BA g c b best) {s : Nat} {w : fC} (hw : best[s]? = some w) (h0 : 0 ≤ kW w) : okE ⟨w, 0⟩ ∧ rkE ⟨w, 0⟩ = kW w + 1 := by
  have hkB : kB = 1048576 := rfl
  obtain ⟨_, _, h3⟩ := I8 hg hc hf hw
  obtain ⟨e, h1⟩ := h3 h0
  rcases hf.val s w hw with rfl | ⟨_, _, h4, h5⟩
  · exact absurd h1 (by decide)
  · refine ⟨⟨h4, by rw [hkB]; simp only; omega⟩, ?_⟩
    unfold rkE rkW; simp only; omega
theorem Na (hg : GOk g) (hc : COk c) {b : Nat} {best : List fC} (hf : BA g c b best) {T : List Nat} (hT : ∀ n ∈ T, n < (grG g).N) {Q : Cell → Bool → Prop}
    (h1 : ∀ x, (∀ a ∈ T, ∀ k, (best.map kW)[3 * a]? = some k → k < 0) → Q x false) (h2 : ∀ start d, Dx (best.map kW) T start d → Q (gK g start) true) : qK ⟨g, c, kS g, best⟩ (T.map (gK g)) Q := by
  unfold qK
  refine jO (fun j (s : Cell × Bool) => (s.2 = false ∧ ∀ a ∈ T.take j, ∀ k, (best.map kW)[3 * a]? = some k → k < 0) ∨ (s.2 = true ∧ ∃ start d, s.1 = gK g start ∧ Dx (best.map kW) (T.take j) start d)) (.inl ⟨rfl, fun a ha => by simp at ha⟩) (fun j x s hx hI next hn => ?_) (fun s hI => ?_)
  · obtain ⟨b2, c2⟩ := s
    simp only at hI
    rw [List.getElem?_map] at hx
    obtain ⟨n, hn2, rfl⟩ := Option.map_eq_some_iff.1 hx
    have hnT := hT n (List.mem_of_getElem? hn2)
    have htk : T.take (j + 1) = T.take j ++ [n] := by rw [List.take_add_one, hn2]; rfl
    rw [htk] at hn
    show lG _ j (gK g n) b2 c2 (fun b2 c2 => next (b2, c2))
    unfold lG
    refine wS hg hc hf hnT (fun w hw hk => ?_)
    obtain ⟨k1, k2, k3⟩ := I8 hg hc hf hw
    have same : ∀ k, (best.map kW)[3 * n]? = some k → k = kW w := fun k hk' => by rw [hk] at hk'; injection hk' with hk'; exact hk'.symm
    have turn : 0 ≤ kW w → (∀ a ∈ T.take j, ∀ k, (best.map kW)[3 * a]? = some k → 0 ≤ k → kW w ≤ k ∧ (k = kW w → n ≤ a)) → next (gK g n, true) := fun h0 hall => by
      refine hn _ (.inr ⟨rfl, n, kW w, rfl, by simp, hk, h0, fun a ha k hk' hk0 => ?_⟩)
      rcases List.mem_append.1 ha with h | h
      · exact hall a h k hk' hk0
      · simp at h; subst h; have := same k hk'; omega
    refine fB (fun e => ?_) (fun e => ?_)
    · have h0 : kW w < 0 := k2.1 (by simpa using e)
      refine hn _ ?_
      rcases hI with ⟨i1, i2⟩ | ⟨i1, start, d, i2, i3⟩
      · refine .inl ⟨i1, fun a ha k hk' => ?_⟩
        rcases List.mem_append.1 ha with h | h
        · exact i2 a h k hk'
        · simp at h; subst h; have := same k hk'; omega
      · refine .inr ⟨i1, start, d, i2, List.mem_append.2 (.inl i3.mem), i3.key, i3.pos, fun a ha k hk' hk0 => ?_⟩
        rcases List.mem_append.1 ha with h | h
        · exact i3.least a h k hk' hk0
        · simp at h; subst h; have := same k hk'; omega
    · have h0 : 0 ≤ kW w := by
        by_cases hh : 0 ≤ kW w
        · exact hh
        · exact absurd (k2.2 (by omega)) (by simpa using e)
      refine fB (fun e2 => ?_) (fun e2 => ?_)
      · unfold iW
        simp only [iJ]
        have hc2 : c2 = false := by simpa using e2
        subst hc2
        rcases hI with ⟨_, i2⟩ | ⟨i1, _⟩
        · exact turn h0 (fun a ha k hk' hk0 => by have := i2 a ha k hk'; omega)
        · cases i1
      · have hc2 : c2 = true := by simpa using e2
        subst hc2
        rcases hI with ⟨i1, _⟩ | ⟨_, start, d, i2, i3⟩
        · cases i1
        have hsT : start ∈ T := List.mem_of_mem_take i3.mem
        have hsl := hT start hsT
        subst i2
        have stay : (d < kW w ∨ d = kW w ∧ start < n) → next (gK g start, true) := fun hh => by
          refine hn _ (.inr ⟨rfl, start, d, rfl, List.mem_append.2 (.inl i3.mem), i3.key, i3.pos, fun a ha k hk' hk0 => ?_⟩)
          rcases List.mem_append.1 ha with h | h
          · exact i3.least a h k hk' hk0
          · simp at h; subst h; have := same k hk'; omega
        refine wS hg hc hf hsl (fun v hv hkv => ?_)
        have hvd : kW v = d := by have := i3.key; rw [hkv] at this; injection this
        obtain ⟨ow, rw_⟩ := Nq hg hc hf hw h0
        obtain ⟨ov, rv⟩ := Nq hg hc hf hv (by rw [hvd]; exact i3.pos)
        have hd0 := i3.pos
        refine vS (a := ⟨w, 0⟩) (b := ⟨v, 0⟩) ow ov ?_
        rw [rw_, rv, hvd]
        refine fB (fun e3 => ?_) (fun e3 => ?_)
        · unfold iW
          simp only [iJ]
          have e3' : kW w + 1 < d + 1 := by simpa using e3
          exact turn h0 (fun a ha k hk' hk0 => by have := i3.least a ha k hk' hk0; omega)
        · have e3' : ¬ kW w + 1 < d + 1 := by simpa using e3
          refine wS hg hc hf hsl (fun v2 hv2 _ => ?_)
          have : v2 = v := by rw [hv] at hv2; injection hv2 with hv2; exact hv2.symm
          subst this
          refine vS (a := ⟨v2, 0⟩) (b := ⟨w, 0⟩) ov ow ?_
          rw [rw_, rv, hvd]
          refine fB (fun e4 => ?_) (fun e4 => ?_)
          · have e4' : ¬ d + 1 < kW w + 1 := by simpa using e4
            refine FM ?_
            rw [BI hg.sz (qP hg.sz hnT) (qP hg.sz hsl), jh, jh]
            unfold iW
            refine fB (fun e5 => ?_) (fun e5 => ?_)
            · have e5' : n < start := by simpa using e5
              refine turn h0 (fun a ha k hk' hk0 => ?_)
              have := i3.least a ha k hk' hk0
              exact ⟨by omega, fun h => by have := this.2 (by omega); omega⟩
            · have e5' : ¬ n < start := by simpa using e5
              by_cases hs : start = n
              · subst hs
                refine hn _ (.inr ⟨rfl, start, d, rfl, List.mem_append.2 (.inl i3.mem), i3.key, i3.pos, fun a ha k hk' hk0 => ?_⟩)
                rcases List.mem_append.1 ha with h | h
                · exact i3.least a h k hk' hk0
                · simp at h; subst h; have := same k hk'; omega
              · exact stay (.inr ⟨by omega, by omega⟩)
          · unfold iW
            simp only [gY]
            have e4' : d + 1 < kW w + 1 := by simpa using e4
            exact stay (.inl (by omega))
  · obtain ⟨b2, c2⟩ := s
    rw [List.length_map, List.take_length] at hI
    rcases hI with ⟨i1, i2⟩ | ⟨i1, start, d, i2, i3⟩
    · simp only at i1; subst i1; exact h1 _ i2
    · simp only at i1 i2; subst i1; subst i2; exact h2 _ _ i3
theorem Dx.kis {b : Nat} {keys : List Int} (hG : (grC g c).lY b keys) {T : List Nat} (hT : ∀ n ∈ T, n < (grG g).N) {start : Nat} {d : Int} (h : Dx keys T start d) : Kis (grC g c) T b d := by
  have hlen : keys.length = 3 * (grG g).N := hG.least.len
  rcases hG.F7 h.key with ⟨h1, _⟩ | ⟨h0, ⟨cc, mm, hw, he, h3, h4⟩, _⟩
  · have := h.pos; omega
  · refine .inr ⟨h0, ⟨cc, mm, ⟨start, h.mem, hw⟩, he, h3, h4⟩, fun c2 m2 ⟨a, ha, hw2⟩ => ?_⟩
    have hl := hT a ha
    have hk : keys[3 * a]? = some (keys[3 * a]'(by omega)) := List.getElem?_eq_getElem _
    rcases hG.F7 hk with ⟨_, g2⟩ | ⟨g0, _, g3⟩
    · exact absurd hw2 (g2 _ _)
    · have := (h.least a ha _ hk g0).1
      have := g3 c2 m2 hw2
      omega
end
section
variable {g : Grid} {c : gy} {pins : List Cell}
theorem NQ (hg : GOk g) (hc : COk c) (hp0 : 0 < pins.length) (hpl : pins.length ≤ 1000) (hpf : ∀ x ∈ pins, inG g x = true ∧ x ∉ g.Blocked) {Q : List (List Cell) → Bool → Prop}
    (h1 : ∀ W, iZ g c pins [gq g (pins.getD 0 default)] W true → Q W true) (h0 : (∃ p ∈ pins, ¬ IE (grC g c) (gq g (pins.getD 0 default)) (gq g p)) → Q [] false) : qW g c pins Q := by
  have hN := hg.N
  have hkB : kB = 1048576 := rfl
  have hx0 : pins[0]? = some (pins.getD 0 default) := by rw [List.getD_eq_getElem?_getD, List.getElem?_eq_getElem hp0]; rfl
  have hxg := hpf _ (List.mem_of_getElem? hx0)
  have hfr := yS (c := c) hg hxg
  unfold qW
  refine gG (i := 0) hx0 ?_
  have ex0 : pins.getD 0 default = gK g (gq g (pins.getD 0 default)) := (xM hg.sz hxg.1).symm
  generalize hn0 : gq g (pins.getD 0 default) = n0 at *
  rw [ex0]
  refine ⟨⟨by omega, by omega⟩, ?_⟩
  refine jO (fun k (l : List (Option (List Bool × List fC))) => l.length = pins.length ∧ ∀ j p, j < k → pins[j]? = some p → ∃ best, l[j]? = some (some (kS g, best)) ∧ BA g c (gq g p) best) ⟨by simp, fun j p hj => by omega⟩ (fun k x l hx hI next hn => ?_) (fun l hI => ?_)
  · obtain ⟨i1, i2⟩ := hI
    have hxp := hpf x (List.mem_of_getElem? hx)
    have hk := dO hx
    unfold pO
    refine MJ hg hc hxp.1 (fun best hf => ⟨fun hx => (by cases hx), fun y hy => ?_⟩)
    injection hy with hy; subst hy
    refine gG (List.getElem?_eq_getElem (by omega)) ?_
    refine hn _ ⟨by simp [i1], fun j p hj hp => ?_⟩
    by_cases e : j = k
    · subst e
      rw [hx] at hp; injection hp with hp; subst hp
      exact ⟨best, by rw [List.getElem?_set_self (by omega)], hf⟩
    · obtain ⟨b2, h3, h4⟩ := i2 j p (by omega) hp
      exact ⟨b2, by rw [List.getElem?_set_ne (by omega)]; exact h3, h4⟩
  · obtain ⟨i1, i2⟩ := hI
    have hfld : ∀ j p, pins[j]? = some p → ∃ best, l[j]? = some (some (kS g, best)) ∧ BA g c (gq g p) best := fun j p hp => i2 j p (dO hp) hp
    clear i2
    refine oU (fun m (s : List (List Cell) × List Cell) => ∃ T : List Nat, T.Nodup ∧ (∀ n ∈ T, n < (grG g).N ∧ (grC g c).no n = false) ∧ n0 ∈ T ∧ s.2 = T.map (gK g) ∧ s.1.length ≤ T.length ∧ (∀ W, iZ g c pins T W true → Q (s.1 ++ W) true) ∧ m = (grG g).N - T.length) (n := (grG g).N - 1) ⟨[n0], by simp, fun n hn => by simp at hn; subst hn; exact hfr, by simp, rfl, by simp, fun W hr => h1 W hr, by simp⟩ ?_
    rintro m ⟨l5, l6⟩ X ⟨T, hnd, hfree, hn0T, h6, h5, hQ, hm⟩ hX
    simp only at h6 h5 hQ
    subst h6
    have hTlt : ∀ n ∈ T, n < (grG g).N := fun n hn => (hfree n hn).1
    have hTl : T.length ≤ (grG g).N := jT _ _ hnd hTlt
    show lF g c pins Q l (fun l5 l6 => X (l5, l6)) l5 (T.map (gK g))
    unfold lF
    refine jO (fun j (s : Cell × Int × Int) => (s.2.1 = -1 ∧ ∀ (i : Nat) q, i < j → pins[i]? = some q → gq g q ∈ T) ∨
        ∃ (i : Nat) (q : Cell) (d : Int) (best : List fC) (start : Nat), i < j ∧ pins[i]? = some q ∧ gq g q ∉ T ∧ s.2.1 = (i : Int) ∧ s.1 = gK g start ∧ s.2.2 = d / kB ∧ l[i]? = some (some (kS g, best)) ∧ BA g c (gq g q) best ∧ Dx (best.map kW) T start d ∧ ∀ (i' : Nat) q' K, i' < j → pins[i']? = some q' → gq g q' ∉ T → Kis (grC g c) T (gq g q') K → 0 ≤ K → d / kB ≤ K / kB ∧ (i' < i → d / kB < K / kB))
      (.inl ⟨rfl, fun i q hi => by omega⟩) (fun k x s hx hI next hnx => ?_) (fun s hI => ?_)
    · obtain ⟨b2, n3, n4⟩ := s
      simp only at hI
      have hxm := List.mem_of_getElem? hx
      have hxp := hpf x hxm
      show nD g c Q l (T.map (gK g)) k x b2 n3 n4 (fun b2 n3 n4 => next (b2, n3, n4))
      unfold nD
      refine oC (fB (fun e => ?_) (fun e => ?_))
      · have hin : gq g x ∈ T := (AP hg.sz hxp.1).1 (by simpa using e)
        refine hnx _ ?_
        rcases hI with ⟨a1, a2⟩ | ⟨i, q, d, best, start, a1, a2, a3, a4, a5, a6, a7, a8, a9, a10⟩
        · refine .inl ⟨a1, fun i q hi hq => ?_⟩
          rcases Nat.lt_succ_iff_lt_or_eq.1 hi with h | h
          · exact a2 i q h hq
          · subst h; rw [hx] at hq; injection hq with hq; subst hq; exact hin
        · refine .inr ⟨i, q, d, best, start, by omega, a2, a3, a4, a5, a6, a7, a8, a9, fun i' q' K hi hq hq2 hK hK0 => ?_⟩
          rcases Nat.lt_succ_iff_lt_or_eq.1 hi with h | h
          · exact a10 i' q' K h hq hq2 hK hK0
          · subst h; rw [hx] at hq; injection hq with hq; subst hq; exact absurd hin hq2
      · have hout : gq g x ∉ T := fun h => by
          have := (AP hg.sz hxp.1).2 h
          simp [this] at e
        obtain ⟨best, hlk, hf⟩ := hfld k x hx
        have hG := DX hg hc hxp hf.least
        refine gG hlk ⟨_, rfl, ?_⟩
        refine Na hg hc hf hTlt (fun y hall => ?_) (fun start d hnr => ?_)
        · simp only [Bool.not_false, iJ]
          refine h0 ⟨x, hxm, fun ⟨cc, mm, hw⟩ => ?_⟩
          have hk : (best.map kW)[3 * n0]? = some ((best.map kW)[3 * n0]'(by rw [hf.least.len]; omega)) := List.getElem?_eq_getElem _
          rcases hG.F7 hk with ⟨_, g2⟩ | ⟨g0, _, _⟩
          · exact g2 _ _ hw
          · have := hall n0 hn0T _ hk; omega
        · simp only [Bool.not_true, gY]
          have hsl := hTlt start hnr.mem
          refine wS hg hc hf hsl (fun w hw hkw => ?_)
          have hwd : kW w = d := by have := hnr.key; rw [hkw] at this; injection this
          have hcost : w.cost = d / kB := by
            rw [← hwd]; exact ((Qr (hf.val _ _ hw)).2.2 (by rw [hwd]; exact hnr.pos)).symm
          have hkis : Kis (grC g c) T (gq g x) d := hnr.kis hG hTlt
          have hsame : ∀ K, Kis (grC g c) T (gq g x) K → K = d := fun K hK => hK.eq hkis (fun _ => Iff.rfl)
          have turn : (n3 < 0 ∨ w.cost < n4) → lu k b2 n3 n4 (fun b2 n3 n4 => next (b2, n3, n4)) (gK g start) w true := fun hh => by
            unfold lu
            simp only [iJ]
            refine hnx _ (.inr ⟨k, x, d, best, start, by omega, hx, hout, rfl, rfl, hcost, hlk, hf, hnr, fun i' q' K hi hq hq2 hK hK0 => ?_⟩)
            rcases Nat.lt_succ_iff_lt_or_eq.1 hi with h | h
            · rcases hI with ⟨a1, a2⟩ | ⟨i, q, d2, b, st, a1, a2, a3, a4, a5, a6, a7, a8, a9, a10⟩
              · exact absurd (a2 i' q' h hq) hq2
              · have := (a10 i' q' K h hq hq2 hK hK0).1
                rcases hh with hh | hh
                · omega
                · rw [hcost, a6] at hh; exact ⟨by omega, fun _ => by omega⟩
            · subst h; rw [hx] at hq; injection hq with hq; subst hq
              rw [hsame K hK]; exact ⟨Int.le_refl _, fun hh => by omega⟩
          refine fB (fun e2 => turn (.inl (by simpa using e2))) (fun e2 => ?_)
          have hn3 : ¬ n3 < 0 := by simpa using e2
          by_cases e3 : w.cost < n4
          · rw [decide_eq_true e3]; exact turn (.inr e3)
          · rw [decide_eq_false e3]
            unfold lu
            simp only [gY]
            refine hnx _ ?_
            rcases hI with ⟨a1, a2⟩ | ⟨i, q, d2, b, st, a1, a2, a3, a4, a5, a6, a7, a8, a9, a10⟩
            · omega
            · refine .inr ⟨i, q, d2, b, st, by omega, a2, a3, a4, a5, a6, a7, a8, a9, fun i' q' K hi hq hq2 hK hK0 => ?_⟩
              rcases Nat.lt_succ_iff_lt_or_eq.1 hi with h | h
              · exact a10 i' q' K h hq hq2 hK hK0
              · subst h; rw [hx] at hq; injection hq with hq; subst hq
                rw [hsame K hK]
                rw [hcost, a6] at e3; exact ⟨by omega, fun hh => by omega⟩
    · obtain ⟨b2, n3, n4⟩ := s
      simp only at hI
      rcases hI with ⟨a1, a2⟩ | ⟨i, q, d, best, start, a1, a2, a3, a4, a5, a6, a7, a8, a9, a10⟩
      · subst a1
        rw [show decide ((-1 : Int) < 0) = true from rfl]
        simp only [iJ]
        have := hQ [] (.done (fun p hp => by
          obtain ⟨i, hi⟩ := List.getElem?_of_mem hp
          exact a2 i p (dO hi) hi))
        simpa using this
      · subst a4; subst a5
        rw [decide_eq_false (show ¬ ((i : Int) < 0) by omega)]
        simp only [gY]
        have hqp := hpf q (List.mem_of_getElem? a2)
        have hG := DX hg hc hqp a8.least
        have hsT := a9.mem
        have hsl := hTlt start hsT
        have hpick : H7 g c pins T i q d := ⟨a2, a3, a9.kis hG hTlt, a9.pos, fun j q' K hj hq' hK hK0 => a10 j q' K (dO hj) hj hq' hK hK0⟩
        refine gG a7 ⟨_, rfl, ?_⟩
        refine JX hg hc a8 hG hsl a9.key a9.pos (fun l2 hgo => ?_)
        obtain ⟨hgl, hgall⟩ := zW hG hgo a9.key a9.pos
        have hgl' : (3 * start :: l2).length ≤ (grG g).N := hgl
        refine ⟨uJ (by simp only [List.length_append, List.length_singleton]; omega) (by decide), ?_⟩
        refine jO (fun j (s : List Cell) => ∃ T9 : List Nat, s = T9.map (gK g) ∧ T9.Nodup ∧ (∀ n ∈ T9, n < (grG g).N ∧ (grC g c).no n = false) ∧ ∀ n, n ∈ T9 ↔ n ∈ T ∨ n ∈ ((3 * start :: l2).map (· / 3)).take j)
          ⟨T, rfl, hnd, hfree, fun n => by simp⟩ (fun k x s hx hJ next hnx => ?_) (fun s hJ => ?_)
        · obtain ⟨T9, c1, c3, c4, c5⟩ := hJ
          subst c1
          unfold cellsS at hx
          rw [List.getElem?_map] at hx
          obtain ⟨t, ht, rfl⟩ := Option.map_eq_some_iff.1 hx
          obtain ⟨t1, t2⟩ := hgall t (List.mem_of_getElem? ht)
          have t1' : t / 3 < (grG g).N := by have : t < 3 * (grG g).N := t1; omega
          have htk : ((3 * start :: l2).map (· / 3)).take (k + 1) = ((3 * start :: l2).map (· / 3)).take k ++ [t / 3] := by
            rw [List.take_add_one, List.getElem?_map, ht]; rfl
          have hT9l := jT _ _ c3 (fun n hn => (c4 n hn).1)
          have hci := qP hg.sz t1'
          unfold nH
          refine oC (fB (fun f1 => ?_) (fun f1 => ?_))
          · have hnin : t / 3 ∉ T9 := fun h => by
              have := (AP hg.sz hci).2 (by rw [jh]; exact h)
              simp [this] at f1
            refine ⟨uJ (by simp only [List.length_append, List.length_map, List.length_singleton]; omega) (by decide), hnx _ ⟨T9 ++ [t / 3], by simp, ?_, fun n hn => ?_, fun n => ?_⟩⟩
            · rw [List.nodup_append]; exact ⟨c3, by simp, fun a ha b hb => by simp at hb; subst hb; exact fun e => hnin (e ▸ ha)⟩
            · rcases List.mem_append.1 hn with h | h
              · exact c4 n h
              · simp at h; subst h; exact ⟨t1', t2⟩
            · rw [htk, List.mem_append, List.mem_append, c5]; exact or_assoc
          · have hin : t / 3 ∈ T9 := by
              have := (AP hg.sz hci (T := T9)).1 (by simpa using f1)
              rwa [jh] at this
            refine hnx _ ⟨T9, rfl, c3, c4, fun n => ?_⟩
            rw [htk, List.mem_append, c5]
            constructor
            · rintro (h | h)
              · exact .inl h
              · exact .inr (.inl h)
            · rintro (h | h | h)
              · exact .inl h
              · exact .inr h
              · simp at h; subst h; exact (c5 _).1 hin
        · obtain ⟨T9, c1, c3, c4, c5⟩ := hJ
          subst c1
          have c5' : ∀ n, n ∈ T9 ↔ n ∈ T ∨ n ∈ (3 * start :: l2).map (· / 3) := fun n => by
            rw [c5 n, List.take_of_length_le (by simp [cellsS])]
          have hway : MR g c T q d (best.map kW) start l2 T9 := ⟨hG, hsT, a9.key, fun n hn hnd2 => (a9.least n hn d hnd2 a9.pos).2 rfl, hgo, c3, c4, c5'⟩
          have hgrow := BP hnd a3 c3 (fun n hn => (c5' n).2 (by
            rcases hn with h | h
            · exact .inl h
            · subst h; exact .inr (Cf hG hgo a9.key)))
          have hT9l := jT _ _ c3 (fun n hn => (c4 n hn).1)
          refine hX ((grG g).N - T9.length) _ (by omega) ⟨T9, c3, c4, (c5' _).2 (.inl hn0T), rfl, by simp only [List.length_append, List.length_singleton]; omega, fun W hr => ?_, rfl⟩
          have := hQ _ (.step hpick hway hr)
          simp only [List.append_assoc, List.singleton_append]
          exact this
end
end Go.Proofs.YtfjcgoiedlimdaaGreatDoor
