/- Chapter texts of ours, as far as the claim needs them. -/
import Derived.Test.YtihjaehkdgdenaaRuD
import Derived.Test.YtihjaehkdgdenaaRuF
import Derived.Test.YtihjaehkdgdenaaRtU2
import Derived.Test.YtihjaehkdgdenaaRtW2
namespace Go.Proofs.Ytihjaehkdgdenaa
open Go Go.RowKit
set_option linter.unusedVariables false
set_option linter.unusedSimpArgs false
section
variable {g : Grid} {c : Costs} {pins : List Cell}
theorem mem_cellN (hs : Sz g) {T : List Nat} {p : Cell} (hp : inG g p = true) : p ∈ T.map (cellN g) ↔ numN g p ∈ T := by
  constructor
  · intro h
    obtain ⟨n, hn, rfl⟩ := List.mem_map.1 h
    rw [numN_cellN]; exact hn
  · intro h; exact List.mem_map.2 ⟨_, h, cellN_numN hs hp⟩
theorem S_field_from (hg : GOk g) (hc : COk c) {b : Nat} {best : List R7Worth} (hf : FldOk g c b best) {n : Nat} (hn : n < (grG g).N) {Q : R7Worth → Prop} (h : ∀ w, best[3 * n]? = some w → (best.map kW)[3 * n]? = some (kW w) → Q w) : M_field_from ⟨g, c, noOf g, best⟩ (cellN g n) Q := by
  have hN := hg.N
  obtain ⟨w, hw, hk⟩ := fld_get hg hf (s := 3 * n) (by omega)
  unfold M_field_from
  refine S_field_at (f := ⟨g, c, noOf g, best⟩) hg.sz (cellN_in hg.sz hn) ?_
  rw [numN_cellN, show w64 (3 * (n : Int)) = ((3 * n : Nat) : Int) by rw [w64_id] <;> omega]
  exact idx_nat hw (h w hw hk)
structure Nearest (keys : List Int) (T : List Nat) (start : Nat) (d : Int) : Prop where
  mem : start ∈ T
  key : keys[3 * start]? = some d
  pos : 0 ≤ d
  least : ∀ a ∈ T, ∀ k, keys[3 * a]? = some k → 0 ≤ k → d ≤ k ∧ (k = d → start ≤ a)
theorem okW_of (hg : GOk g) (hc : COk c) {b : Nat} {best : List R7Worth} (hf : FldOk g c b best) {s : Nat} {w : R7Worth} (hw : best[s]? = some w) (h0 : 0 ≤ kW w) : okE ⟨w, 0⟩ ∧ rkE ⟨w, 0⟩ = kW w + 1 := by
  have hkB : kB = 1048576 := rfl
  obtain ⟨_, _, h3⟩ := kW_way hg hc hf hw
  obtain ⟨e, h1⟩ := h3 h0
  rcases hf.val s w hw with rfl | ⟨_, _, h4, h5⟩
  · exact absurd h1 (by decide)
  · refine ⟨⟨h4, by rw [hkB]; simp only; omega⟩, ?_⟩
    unfold rkE rkW; simp only; omega
theorem S_nearest (hg : GOk g) (hc : COk c) {b : Nat} {best : List R7Worth} (hf : FldOk g c b best) {T : List Nat} (hT : ∀ n ∈ T, n < (grG g).N) {Q : Cell → Bool → Prop}
    (h1 : ∀ x, (∀ a ∈ T, ∀ k, (best.map kW)[3 * a]? = some k → k < 0) → Q x false) (h2 : ∀ start d, Nearest (best.map kW) T start d → Q (cellN g start) true) : M_field_nearest ⟨g, c, noOf g, best⟩ (T.map (cellN g)) Q := by
  unfold M_field_nearest
  refine forIn0 (fun j (s : Cell × Bool) => (s.2 = false ∧ ∀ a ∈ T.take j, ∀ k, (best.map kW)[3 * a]? = some k → k < 0) ∨ (s.2 = true ∧ ∃ start d, s.1 = cellN g start ∧ Nearest (best.map kW) (T.take j) start d)) (.inl ⟨rfl, fun a ha => by simp at ha⟩) (fun j x s hx hI next hn => ?_) (fun s hI => ?_)
  · obtain ⟨b2, c2⟩ := s
    simp only at hI
    rw [List.getElem?_map] at hx
    obtain ⟨n, hn2, rfl⟩ := Option.map_eq_some_iff.1 hx
    have hnT := hT n (List.mem_of_getElem? hn2)
    have htk : T.take (j + 1) = T.take j ++ [n] := by rw [List.take_add_one, hn2]; rfl
    rw [htk] at hn
    show M_field_nearest_L1 _ j (cellN g n) b2 c2 (fun b2 c2 => next (b2, c2))
    unfold M_field_nearest_L1
    refine S_field_from hg hc hf hnT (fun w hw hk => ?_)
    obtain ⟨k1, k2, k3⟩ := kW_way hg hc hf hw
    have same : ∀ k, (best.map kW)[3 * n]? = some k → k = kW w := fun k hk' => by rw [hk] at hk'; injection hk' with hk'; exact hk'.symm
    have turn : 0 ≤ kW w → (∀ a ∈ T.take j, ∀ k, (best.map kW)[3 * a]? = some k → 0 ≤ k → kW w ≤ k ∧ (k = kW w → n ≤ a)) → next (cellN g n, true) := fun h0 hall => by
      refine hn _ (.inr ⟨rfl, n, kW w, rfl, by simp, hk, h0, fun a ha k hk' hk0 => ?_⟩)
      rcases List.mem_append.1 ha with h | h
      · exact hall a h k hk' hk0
      · simp at h; subst h; have := same k hk'; omega
    refine cnd_of (fun e => ?_) (fun e => ?_)
    · have h0 : kW w < 0 := k2.1 (by simpa using e)
      refine hn _ ?_
      rcases hI with ⟨i1, i2⟩ | ⟨i1, start, d, i2, i3⟩
      · refine .inl ⟨i1, fun a ha k hk' => ?_⟩
        rcases List.mem_append.1 ha with h | h
        · exact i2 a h k hk'
        · simp at h; subst h; have := same k hk'; omega
      · refine .inr ⟨i1, start, d, i2, List.mem_append.2 (.inl i3.mem), i3.key, i3.pos, fun a ha k hk' hk0 => ?_⟩
        rcases List.mem_append.1 ha with h | h
        · exact i3.least a h k hk' hk0
        · simp at h; subst h; have := same k hk'; omega
    · have h0 : 0 ≤ kW w := by
        by_cases hh : 0 ≤ kW w
        · exact hh
        · exact absurd (k2.2 (by omega)) (by simpa using e)
      refine cnd_of (fun e2 => ?_) (fun e2 => ?_)
      · unfold M_field_nearest_k2
        simp only [cnd_true]
        have hc2 : c2 = false := by simpa using e2
        subst hc2
        rcases hI with ⟨_, i2⟩ | ⟨i1, _⟩
        · exact turn h0 (fun a ha k hk' hk0 => by have := i2 a ha k hk'; omega)
        · cases i1
      · have hc2 : c2 = true := by simpa using e2
        subst hc2
        rcases hI with ⟨i1, _⟩ | ⟨_, start, d, i2, i3⟩
        · cases i1
        have hsT : start ∈ T := List.mem_of_mem_take i3.mem
        have hsl := hT start hsT
        subst i2
        have stay : (d < kW w ∨ d = kW w ∧ start < n) → next (cellN g start, true) := fun hh => by
          refine hn _ (.inr ⟨rfl, start, d, rfl, List.mem_append.2 (.inl i3.mem), i3.key, i3.pos, fun a ha k hk' hk0 => ?_⟩)
          rcases List.mem_append.1 ha with h | h
          · exact i3.least a h k hk' hk0
          · simp at h; subst h; have := same k hk'; omega
        refine S_field_from hg hc hf hsl (fun v hv hkv => ?_)
        have hvd : kW v = d := by have := i3.key; rw [hkv] at this; injection this
        obtain ⟨ow, rw_⟩ := okW_of hg hc hf hw h0
        obtain ⟨ov, rv⟩ := okW_of hg hc hf hv (by rw [hvd]; exact i3.pos)
        have hd0 := i3.pos
        refine S_worth_less (a := ⟨w, 0⟩) (b := ⟨v, 0⟩) ow ov ?_
        rw [rw_, rv, hvd]
        refine cnd_of (fun e3 => ?_) (fun e3 => ?_)
        · unfold M_field_nearest_k2
          simp only [cnd_true]
          have e3' : kW w + 1 < d + 1 := by simpa using e3
          exact turn h0 (fun a ha k hk' hk0 => by have := i3.least a ha k hk' hk0; omega)
        · have e3' : ¬ kW w + 1 < d + 1 := by simpa using e3
          refine S_field_from hg hc hf hsl (fun v2 hv2 _ => ?_)
          have : v2 = v := by rw [hv] at hv2; injection hv2 with hv2; exact hv2.symm
          subst this
          refine S_worth_less (a := ⟨v2, 0⟩) (b := ⟨w, 0⟩) ov ow ?_
          rw [rw_, rv, hvd]
          refine cnd_of (fun e4 => ?_) (fun e4 => ?_)
          · have e4' : ¬ d + 1 < kW w + 1 := by simpa using e4
            refine S_before ?_
            rw [before_num hg.sz (cellN_in hg.sz hnT) (cellN_in hg.sz hsl), numN_cellN, numN_cellN]
            unfold M_field_nearest_k2
            refine cnd_of (fun e5 => ?_) (fun e5 => ?_)
            · have e5' : n < start := by simpa using e5
              refine turn h0 (fun a ha k hk' hk0 => ?_)
              have := i3.least a ha k hk' hk0
              exact ⟨by omega, fun h => by have := this.2 (by omega); omega⟩
            · have e5' : ¬ n < start := by simpa using e5
              by_cases hs : start = n
              · subst hs
                refine hn _ (.inr ⟨rfl, start, d, rfl, List.mem_append.2 (.inl i3.mem), i3.key, i3.pos, fun a ha k hk' hk0 => ?_⟩)
                rcases List.mem_append.1 ha with h | h
                · exact i3.least a h k hk' hk0
                · simp at h; subst h; have := same k hk'; omega
              · exact stay (.inr ⟨by omega, by omega⟩)
          · unfold M_field_nearest_k2
            simp only [cnd_false]
            have e4' : d + 1 < kW w + 1 := by simpa using e4
            exact stay (.inl (by omega))
  · obtain ⟨b2, c2⟩ := s
    rw [List.length_map, List.take_length] at hI
    rcases hI with ⟨i1, i2⟩ | ⟨i1, start, d, i2, i3⟩
    · simp only at i1; subst i1; exact h1 _ i2
    · simp only at i1 i2; subst i1; subst i2; exact h2 _ _ i3
theorem Nearest.kis {b : Nat} {keys : List Int} (hG : (grC g c).ToGoal b keys) {T : List Nat} (hT : ∀ n ∈ T, n < (grG g).N) {start : Nat} {d : Int} (h : Nearest keys T start d) : Kis (grC g c) T b d := by
  have hlen : keys.length = 3 * (grG g).N := hG.least.len
  rcases hG.isMin h.key with ⟨h1, _⟩ | ⟨h0, ⟨cc, mm, hw, he, h3, h4⟩, _⟩
  · have := h.pos; omega
  · refine .inr ⟨h0, ⟨cc, mm, ⟨start, h.mem, hw⟩, he, h3, h4⟩, fun c2 m2 ⟨a, ha, hw2⟩ => ?_⟩
    have hl := hT a ha
    have hk : keys[3 * a]? = some (keys[3 * a]'(by omega)) := List.getElem?_eq_getElem _
    rcases hG.isMin hk with ⟨_, g2⟩ | ⟨g0, _, g3⟩
    · exact absurd hw2 (g2 _ _)
    · have := (h.least a ha _ hk g0).1
      have := g3 c2 m2 hw2
      omega
end
end Go.Proofs.Ytihjaehkdgdenaa
