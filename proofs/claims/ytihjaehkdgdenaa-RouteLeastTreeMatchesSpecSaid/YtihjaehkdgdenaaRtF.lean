/- Chapter 7: the search as a whole, and the least costs of a way. -/
import Derived.Test.YtihjaehkdgdenaaRtE
namespace Go.Proofs.Ytihjaehkdgdenaa
open Go Go.RowKit
set_option linter.unusedVariables false
set_option linter.unusedSimpArgs false

theorem S_search {f : RouteFinder} {back : Bool} (hf : GoodF f) {Sn : List Nat} (hnd : Sn.Nodup) (hlt : ∀ s ∈ Sn, s < 3 * (grOf f).N) {Q : List Int → Prop} (h : ∀ out, Least ((grOf f).E back) Sn (3 * (grOf f).N) out → Q out) : M_search f (Sn.map (fun n : Nat => (n : Int))) back Q := by
  have hN := hf.N
  have hno := hf.no
  have hE := hf.ok.good back
  have hSl : Sn.length ≤ 3 * (grOf f).N := nodup_len _ _ hnd hlt
  have ew : w64 (3 * (f.no.length : Int)) = ((3 * (grOf f).N : Nat) : Int) := by rw [hno, w64_id] <;> omega
  unfold M_search
  rw [ew]
  refine ⟨⟨by omega, by omega⟩, ?_⟩
  rw [Int.toNat_natCast]
  -- all are -1 at first
  refine lp_measN (fun m (s : List Int × Int) => ∃ k : Nat, s.2 = (k : Int) ∧ k + m = 3 * (grOf f).N ∧ s.1.length = 3 * (grOf f).N ∧ ∀ i d, i < k → s.1[i]? = some d → d = -1) (n := 3 * (grOf f).N) ⟨0, rfl, by omega, by simp, fun i d hi => by omega⟩ ?_
  rintro m ⟨l2, n2⟩ X ⟨k, hk, hkm, hl, ha⟩ hX
  simp only at hk hl ha
  subst hk
  show M_search_L1 f (Sn.map (fun n : Nat => (n : Int))) back Q (fun l2 n2 => X (l2, n2)) l2 k
  unfold M_search_L1
  rw [ew, Int.toNat_natCast, List.length_replicate]
  refine cnd_of (fun e => ?_) (fun e => ?_)
  · have e' : k < 3 * (grOf f).N := by simp at e; omega
    have hx : l2[k]? = some (l2[k]'(by omega)) := List.getElem?_eq_getElem (by omega)
    refine idx_nat hx ?_
    rw [Int.toNat_natCast, show w64 ((k : Int) + 1) = ((k + 1 : Nat) : Int) by rw [w64_id] <;> omega]
    refine hX (m - 1) _ (by omega) ⟨k + 1, rfl, by omega, by simp [hl], fun i d hi hd => ?_⟩
    simp only [List.getElem?_set] at hd
    split at hd
    · split at hd
      · injection hd with hd; exact hd.symm
      · cases hd
    · exact ha i d (by omega) hd
  · have e' : 3 * (grOf f).N ≤ k := by simp at e; omega
    -- the starts
    refine forIn0 (fun j (s : List RouteItem × List Int) => s.1 = (Sn.take j).map (fun n : Nat => (⟨0, (n : Int)⟩ : RouteItem)) ∧ s.2.length = 3 * (grOf f).N ∧ (∀ (i : Nat) d, s.2[i]? = some d → d = -1 ∨ (d = 0 ∧ i ∈ Sn.take j)) ∧ ∀ i ∈ Sn.take j, s.2[i]? = some 0) ⟨rfl, hl, fun i d hd => .inl (ha i d (by have h9 : l2[i]? = some d := hd; have := (List.getElem?_eq_some_iff.1 h9).1; omega) hd), fun i hi => by simp at hi⟩ ?_ ?_
    · rintro j xk ⟨l5, l6⟩ hx ⟨h1, h2, h3, h4⟩ next hn
      simp only at h1 h2 h3 h4
      rw [List.getElem?_map] at hx
      obtain ⟨s, hs, rfl⟩ := Option.map_eq_some_iff.1 hx
      have hsm : s ∈ Sn := List.mem_of_getElem? hs
      have hsl := hlt s hsm
      have hjl := (List.getElem?_eq_some_iff.1 hs).1
      show M_search_L2 j (s : Int) l5 l6 (fun l5 l6 => next (l5, l6))
      unfold M_search_L2
      refine idx_nat (List.getElem?_eq_getElem (by omega)) ⟨room_of ?_ (by decide), ?_⟩
      · rw [h1]; simp only [List.length_append, List.length_map, List.length_take, List.length_singleton]; omega
      · rw [Int.toNat_natCast]
        have htk : Sn.take (j + 1) = Sn.take j ++ [s] := by rw [List.take_add_one, hs]; rfl
        refine hn _ ⟨by rw [h1, htk, List.map_append]; rfl, by simp [h2], fun i d hd => ?_, fun i hi => ?_⟩
        · simp only [List.getElem?_set] at hd
          rw [htk]
          split at hd
          · rename_i e3; subst e3
            split at hd
            · injection hd with hd; exact .inr ⟨hd.symm, by simp⟩
            · cases hd
          · rcases h3 i d hd with h5 | ⟨h5, h6⟩
            · exact .inl h5
            · exact .inr ⟨h5, List.mem_append_left _ h6⟩
        · rw [htk] at hi
          simp only [List.getElem?_set]
          split
          · rename_i e3; subst e3; rw [if_pos (by omega)]
          · rename_i e3
            rcases List.mem_append.1 hi with h5 | h5
            · exact h4 i h5
            · simp at h5; exact absurd h5.symm e3
    · rintro ⟨l5, l6⟩ ⟨h1, h2, h3, h4⟩
      simp only [List.length_map, List.take_length] at h1 h2 h3 h4
      show M_heap_Init l5 _
      refine S_heap_Init (by rw [h1]; simp only [List.length_map]; omega) (fun q0 hp hh => ?_)
      have hp2 : (q0.map pr).Perm (Sn.map (fun s => ((0 : Int), s))) := by
        have := hp.map pr
        rw [h1, List.map_map] at this
        refine this.trans (List.Perm.of_eq (List.map_congr_left (fun s _ => ?_)))
        simp [pr]
      have hpos : ∀ y ∈ q0, 0 ≤ y.state := fun y hy => by
        have := hp.mem_iff.1 hy
        rw [h1] at this
        obtain ⟨s, _, rfl⟩ := List.mem_map.1 this
        simp only; omega
      have hq0 : q0.length = Sn.length := by rw [hp.length_eq, h1, List.length_map]
      -- the search itself
      refine lp_measN (fun m (s : List Int × List RouteItem) => ∃ D, SInv ((grOf f).E back) Sn (3 * (grOf f).N) 3000 (fun _ => False) D s.1 (s.2.map pr) ∧ isHeap s.2 ∧ (∀ y ∈ s.2, 0 ≤ y.state) ∧ m = s.2.length + 18 * (3 * (grOf f).N - D.length) ∧ m ≤ 4000000) (n := q0.length + 18 * (3 * (grOf f).N)) ⟨[], SInv.init (by decide) h2 h3 h4 hp2 hnd, hh, hpos, by simp, by omega⟩ ?_
      rintro m ⟨out, q⟩ X2 ⟨D, hi, hh, hpos, hm, hmb⟩ hX2
      simp only at hi hh hpos hm
      show M_search_L3 f back Q (fun l9 l10 => X2 (l9, l10)) out q
      unfold M_search_L3
      refine cnd_of (fun e => ?_) (fun e => ?_)
      · have hq : 0 < q.length := by simpa using e
        refine S_heap_Pop (by omega) hq hh (fun x q' hpp hmin hh' => ?_)
        have hi2 : SInv ((grOf f).E back) Sn (3 * (grOf f).N) 3000 (fun _ => False) D out (pr x :: q'.map pr) := hi.perm (hpp.map pr).symm
        have hx0 : 0 ≤ x.state := hpos x (hpp.mem_iff.2 List.mem_cons_self)
        have hpos' : ∀ y ∈ q', 0 ≤ y.state := fun y hy => hpos y (hpp.mem_iff.2 (List.mem_cons_of_mem _ hy))
        have hlq : q.length = q'.length + 1 := by rw [hpp.length_eq]; rfl
        obtain ⟨d, hd, hd0, hd1⟩ := hi2.qin (pr x) List.mem_cons_self
        simp only [pr] at hd hd1
        have hxn : x.state.toNat < 3 * (grOf f).N := by rw [← hi.len]; exact (List.getElem?_eq_some_iff.1 hd).1
        refine ⟨hx0, d, hd, ?_⟩
        refine cnd_of (fun e2 => ?_) (fun e2 => ?_)
        · have e2' : d < x.key := by simpa using e2
          exact hX2 (q'.length + 18 * (3 * (grOf f).N - D.length)) (out, q') (by omega) ⟨D, hi2.skip hd e2', hh', hpos', rfl, by omega⟩
        · have e2' : ¬ d < x.key := by simpa using e2
          obtain ⟨hr, hDl⟩ := hi2.open_ (fun y hy => by obtain ⟨z, hz, rfl⟩ := List.mem_map.1 hy; exact hmin z hz) hd e2'
          have hel := (hE _ hxn).1
          refine S_steps (D := x.state.toNat :: D) (C := m - 1) hf hx0 hxn ⟨⟨[], hr⟩, hh', hpos', by simp only [List.length_cons]; omega, by omega⟩ (fun out' q'' hI => ?_)
          obtain ⟨⟨L, hr'⟩, hh'', hpos'', hc, _⟩ := hI
          simp only [List.length_cons, List.length_nil] at hc
          exact hX2 (q''.length + 18 * (3 * (grOf f).N - (D.length + 1))) (out', q'') (by omega) ⟨_, hr'.close, hh'', hpos'', rfl, by omega⟩
      · have hq : q = [] := by
          cases q with
          | nil => rfl
          | cons y r => simp at e
        subst hq
        exact h out (SInv.least hi hE)
theorem S_to {f : RouteFinder} (hf : GoodF f) {n : Nat} (hn : n < (grOf f).N) {Q : List Int → Prop} (h : ∀ out, Least ((grOf f).E true) [3 * n, 3 * n + 1, 3 * n + 2] (3 * (grOf f).N) out → Q out) : M_finder_to f (n : Int) Q := by
  have hN := hf.N
  unfold M_finder_to
  rw [w64_id (n := 3 * (n : Int)) (by omega) (by omega), w64_id (n := 3 * (n : Int) + 1) (by omega) (by omega), w64_id (n := 3 * (n : Int) + 2) (by omega) (by omega)]
  have := S_search (f := f) (back := true) (Sn := [3 * n, 3 * n + 1, 3 * n + 2]) hf (by simp) (fun s hs => by simp at hs; omega) h
  simpa using this
end Go.Proofs.Ytihjaehkdgdenaa
