/- Chapter texts of ours, as far as the claim needs them. -/
import Derived.Test.YtihjaehkdgdenaaRuE
namespace Go.Proofs.Ytihjaehkdgdenaa
open Go Go.RowKit
set_option linter.unusedVariables false
set_option linter.unusedSimpArgs false
section
variable {g : Grid} {c : Costs} {pins : List Cell}
theorem S_treeOf (hg : GOk g) (hc : COk c) (hp0 : 0 < pins.length) (hpl : pins.length ≤ 1000) (hpf : ∀ x ∈ pins, inG g x = true ∧ x ∉ g.Blocked) {Q : List (List Cell) → Bool → Prop}
    (h1 : ∀ W, TreeRun g c pins [numN g (pins.getD 0 default)] W true → Q W true) (h0 : (∃ p ∈ pins, ¬ Conn (grC g c) (numN g (pins.getD 0 default)) (numN g p)) → Q [] false) : M_ref7_treeOf g c pins Q := by
  have hN := hg.N
  have hkB : kB = 1048576 := rfl
  have hx0 : pins[0]? = some (pins.getD 0 default) := by rw [List.getD_eq_getElem?_getD, List.getElem?_eq_getElem hp0]; rfl
  have hxg := hpf _ (List.mem_of_getElem? hx0)
  have hfr := free_cell (c := c) hg hxg
  unfold M_ref7_treeOf
  refine idx_nat (i := 0) hx0 ?_
  have ex0 : pins.getD 0 default = cellN g (numN g (pins.getD 0 default)) := (cellN_numN hg.sz hxg.1).symm
  generalize hn0 : numN g (pins.getD 0 default) = n0 at *
  rw [ex0]
  refine ⟨⟨by omega, by omega⟩, ?_⟩
  refine forIn0 (fun k (l : List (Option (List Bool × List R7Worth))) => l.length = pins.length ∧ ∀ j p, j < k → pins[j]? = some p → ∃ best, l[j]? = some (some (noOf g, best)) ∧ FldOk g c (numN g p) best) ⟨by simp, fun j p hj => by omega⟩ (fun k x l hx hI next hn => ?_) (fun l hI => ?_)
  · obtain ⟨i1, i2⟩ := hI
    have hxp := hpf x (List.mem_of_getElem? hx)
    have hk := lt_of_get hx
    unfold M_ref7_treeOf_L1
    refine S_fieldOf hg hc hxp.1 (fun best hf => ⟨fun hx => (by cases hx), fun y hy => ?_⟩)
    injection hy with hy; subst hy
    refine idx_nat (List.getElem?_eq_getElem (by omega)) ?_
    refine hn _ ⟨by simp [i1], fun j p hj hp => ?_⟩
    by_cases e : j = k
    · subst e
      rw [hx] at hp; injection hp with hp; subst hp
      exact ⟨best, by rw [List.getElem?_set_self (by omega)], hf⟩
    · obtain ⟨b2, h3, h4⟩ := i2 j p (by omega) hp
      exact ⟨b2, by rw [List.getElem?_set_ne (by omega)]; exact h3, h4⟩
  · obtain ⟨i1, i2⟩ := hI
    have hfld : ∀ j p, pins[j]? = some p → ∃ best, l[j]? = some (some (noOf g, best)) ∧ FldOk g c (numN g p) best := fun j p hp => i2 j p (lt_of_get hp) hp
    clear i2
    refine lp_measN (fun m (s : List (List Cell) × List Cell) => ∃ T : List Nat, T.Nodup ∧ (∀ n ∈ T, n < (grG g).N ∧ (grC g c).no n = false) ∧ n0 ∈ T ∧ s.2 = T.map (cellN g) ∧ s.1.length ≤ T.length ∧ (∀ W, TreeRun g c pins T W true → Q (s.1 ++ W) true) ∧ m = (grG g).N - T.length) (n := (grG g).N - 1) ⟨[n0], by simp, fun n hn => by simp at hn; subst hn; exact hfr, by simp, rfl, by simp, fun W hr => h1 W hr, by simp⟩ ?_
    rintro m ⟨l5, l6⟩ X ⟨T, hnd, hfree, hn0T, h6, h5, hQ, hm⟩ hX
    simp only at h6 h5 hQ
    subst h6
    have hTlt : ∀ n ∈ T, n < (grG g).N := fun n hn => (hfree n hn).1
    have hTl : T.length ≤ (grG g).N := nodup_len _ _ hnd hTlt
    show M_ref7_treeOf_L2 g c pins Q l (fun l5 l6 => X (l5, l6)) l5 (T.map (cellN g))
    unfold M_ref7_treeOf_L2
    refine forIn0 (fun j (s : Cell × Int × Int) => (s.2.1 = -1 ∧ ∀ (i : Nat) q, i < j → pins[i]? = some q → numN g q ∈ T) ∨
        ∃ (i : Nat) (q : Cell) (d : Int) (best : List R7Worth) (start : Nat), i < j ∧ pins[i]? = some q ∧ numN g q ∉ T ∧ s.2.1 = (i : Int) ∧ s.1 = cellN g start ∧ s.2.2 = d / kB ∧ l[i]? = some (some (noOf g, best)) ∧ FldOk g c (numN g q) best ∧ Nearest (best.map kW) T start d ∧ ∀ (i' : Nat) q' K, i' < j → pins[i']? = some q' → numN g q' ∉ T → Kis (grC g c) T (numN g q') K → 0 ≤ K → d / kB ≤ K / kB ∧ (i' < i → d / kB < K / kB))
      (.inl ⟨rfl, fun i q hi => by omega⟩) (fun k x s hx hI next hnx => ?_) (fun s hI => ?_)
    · obtain ⟨b2, n3, n4⟩ := s
      simp only at hI
      have hxm := List.mem_of_getElem? hx
      have hxp := hpf x hxm
      show M_ref7_treeOf_L3 g c Q l (T.map (cellN g)) k x b2 n3 n4 (fun b2 n3 n4 => next (b2, n3, n4))
      unfold M_ref7_treeOf_L3
      refine S_contains_cell (cnd_of (fun e => ?_) (fun e => ?_))
      · have hin : numN g x ∈ T := (mem_cellN hg.sz hxp.1).1 (by simpa using e)
        refine hnx _ ?_
        rcases hI with ⟨a1, a2⟩ | ⟨i, q, d, best, start, a1, a2, a3, a4, a5, a6, a7, a8, a9, a10⟩
        · refine .inl ⟨a1, fun i q hi hq => ?_⟩
          rcases Nat.lt_succ_iff_lt_or_eq.1 hi with h | h
          · exact a2 i q h hq
          · subst h; rw [hx] at hq; injection hq with hq; subst hq; exact hin
        · refine .inr ⟨i, q, d, best, start, by omega, a2, a3, a4, a5, a6, a7, a8, a9, fun i' q' K hi hq hq2 hK hK0 => ?_⟩
          rcases Nat.lt_succ_iff_lt_or_eq.1 hi with h | h
          · exact a10 i' q' K h hq hq2 hK hK0
          · subst h; rw [hx] at hq; injection hq with hq; subst hq; exact absurd hin hq2
      · have hout : numN g x ∉ T := fun h => by
          have := (mem_cellN hg.sz hxp.1).2 h
          simp [this] at e
        obtain ⟨best, hlk, hf⟩ := hfld k x hx
        have hG := toGoal_of hg hc hxp hf.least
        refine idx_nat hlk ⟨_, rfl, ?_⟩
        refine S_nearest hg hc hf hTlt (fun y hall => ?_) (fun start d hnr => ?_)
        · simp only [Bool.not_false, cnd_true]
          refine h0 ⟨x, hxm, fun ⟨cc, mm, hw⟩ => ?_⟩
          have hk : (best.map kW)[3 * n0]? = some ((best.map kW)[3 * n0]'(by rw [hf.least.len]; omega)) := List.getElem?_eq_getElem _
          rcases hG.isMin hk with ⟨_, g2⟩ | ⟨g0, _, _⟩
          · exact g2 _ _ hw
          · have := hall n0 hn0T _ hk; omega
        · simp only [Bool.not_true, cnd_false]
          have hsl := hTlt start hnr.mem
          refine S_field_from hg hc hf hsl (fun w hw hkw => ?_)
          have hwd : kW w = d := by have := hnr.key; rw [hkw] at this; injection this
          have hcost : w.cost = d / kB := by
            rw [← hwd]; exact ((kW_of (hf.val _ _ hw)).2.2 (by rw [hwd]; exact hnr.pos)).symm
          have hkis : Kis (grC g c) T (numN g x) d := hnr.kis hG hTlt
          have hsame : ∀ K, Kis (grC g c) T (numN g x) K → K = d := fun K hK => hK.eq hkis (fun _ => Iff.rfl)
          have turn : (n3 < 0 ∨ w.cost < n4) → M_ref7_treeOf_k5 k b2 n3 n4 (fun b2 n3 n4 => next (b2, n3, n4)) (cellN g start) w true := fun hh => by
            unfold M_ref7_treeOf_k5
            simp only [cnd_true]
            refine hnx _ (.inr ⟨k, x, d, best, start, by omega, hx, hout, rfl, rfl, hcost, hlk, hf, hnr, fun i' q' K hi hq hq2 hK hK0 => ?_⟩)
            rcases Nat.lt_succ_iff_lt_or_eq.1 hi with h | h
            · rcases hI with ⟨a1, a2⟩ | ⟨i, q, d2, b, st, a1, a2, a3, a4, a5, a6, a7, a8, a9, a10⟩
              · exact absurd (a2 i' q' h hq) hq2
              · have := (a10 i' q' K h hq hq2 hK hK0).1
                rcases hh with hh | hh
                · omega
                · rw [hcost, a6] at hh; exact ⟨by omega, fun _ => by omega⟩
            · subst h; rw [hx] at hq; injection hq with hq; subst hq
              rw [hsame K hK]; exact ⟨Int.le_refl _, fun hh => by omega⟩
          refine cnd_of (fun e2 => turn (.inl (by simpa using e2))) (fun e2 => ?_)
          have hn3 : ¬ n3 < 0 := by simpa using e2
          by_cases e3 : w.cost < n4
          · rw [decide_eq_true e3]; exact turn (.inr e3)
          · rw [decide_eq_false e3]
            unfold M_ref7_treeOf_k5
            simp only [cnd_false]
            refine hnx _ ?_
            rcases hI with ⟨a1, a2⟩ | ⟨i, q, d2, b, st, a1, a2, a3, a4, a5, a6, a7, a8, a9, a10⟩
            · omega
            · refine .inr ⟨i, q, d2, b, st, by omega, a2, a3, a4, a5, a6, a7, a8, a9, fun i' q' K hi hq hq2 hK hK0 => ?_⟩
              rcases Nat.lt_succ_iff_lt_or_eq.1 hi with h | h
              · exact a10 i' q' K h hq hq2 hK hK0
              · subst h; rw [hx] at hq; injection hq with hq; subst hq
                rw [hsame K hK]
                rw [hcost, a6] at e3; exact ⟨by omega, fun hh => by omega⟩
    · obtain ⟨b2, n3, n4⟩ := s
      simp only at hI
      rcases hI with ⟨a1, a2⟩ | ⟨i, q, d, best, start, a1, a2, a3, a4, a5, a6, a7, a8, a9, a10⟩
      · subst a1
        rw [show decide ((-1 : Int) < 0) = true from rfl]
        simp only [cnd_true]
        have := hQ [] (.done (fun p hp => by
          obtain ⟨i, hi⟩ := List.getElem?_of_mem hp
          exact a2 i p (lt_of_get hi) hi))
        simpa using this
      · subst a4; subst a5
        rw [decide_eq_false (show ¬ ((i : Int) < 0) by omega)]
        simp only [cnd_false]
        have hqp := hpf q (List.mem_of_getElem? a2)
        have hG := toGoal_of hg hc hqp a8.least
        have hsT := a9.mem
        have hsl := hTlt start hsT
        have hpick : TPick g c pins T i q d := ⟨a2, a3, a9.kis hG hTlt, a9.pos, fun j q' K hj hq' hK hK0 => a10 j q' K (lt_of_get hj) hj hq' hK hK0⟩
        refine idx_nat a7 ⟨_, rfl, ?_⟩
        refine S_field_way hg hc a8 hG hsl a9.key a9.pos (fun l2 hgo => ?_)
        obtain ⟨hgl, hgall⟩ := goes_len hG hgo a9.key a9.pos
        have hgl' : (3 * start :: l2).length ≤ (grG g).N := hgl
        refine ⟨room_of (by simp only [List.length_append, List.length_singleton]; omega) (by decide), ?_⟩
        refine forIn0 (fun j (s : List Cell) => ∃ T9 : List Nat, s = T9.map (cellN g) ∧ T9.Nodup ∧ (∀ n ∈ T9, n < (grG g).N ∧ (grC g c).no n = false) ∧ ∀ n, n ∈ T9 ↔ n ∈ T ∨ n ∈ ((3 * start :: l2).map (· / 3)).take j)
          ⟨T, rfl, hnd, hfree, fun n => by simp⟩ (fun k x s hx hJ next hnx => ?_) (fun s hJ => ?_)
        · obtain ⟨T9, c1, c3, c4, c5⟩ := hJ
          subst c1
          unfold cellsS at hx
          rw [List.getElem?_map] at hx
          obtain ⟨t, ht, rfl⟩ := Option.map_eq_some_iff.1 hx
          obtain ⟨t1, t2⟩ := hgall t (List.mem_of_getElem? ht)
          have t1' : t / 3 < (grG g).N := by have : t < 3 * (grG g).N := t1; omega
          have htk : ((3 * start :: l2).map (· / 3)).take (k + 1) = ((3 * start :: l2).map (· / 3)).take k ++ [t / 3] := by
            rw [List.take_add_one, List.getElem?_map, ht]; rfl
          have hT9l := nodup_len _ _ c3 (fun n hn => (c4 n hn).1)
          have hci := cellN_in hg.sz t1'
          unfold M_ref7_treeOf_L4
          refine S_contains_cell (cnd_of (fun f1 => ?_) (fun f1 => ?_))
          · have hnin : t / 3 ∉ T9 := fun h => by
              have := (mem_cellN hg.sz hci).2 (by rw [numN_cellN]; exact h)
              simp [this] at f1
            refine ⟨room_of (by simp only [List.length_append, List.length_map, List.length_singleton]; omega) (by decide), hnx _ ⟨T9 ++ [t / 3], by simp, ?_, fun n hn => ?_, fun n => ?_⟩⟩
            · rw [List.nodup_append]; exact ⟨c3, by simp, fun a ha b hb => by simp at hb; subst hb; exact fun e => hnin (e ▸ ha)⟩
            · rcases List.mem_append.1 hn with h | h
              · exact c4 n h
              · simp at h; subst h; exact ⟨t1', t2⟩
            · rw [htk, List.mem_append, List.mem_append, c5]; exact or_assoc
          · have hin : t / 3 ∈ T9 := by
              have := (mem_cellN hg.sz hci (T := T9)).1 (by simpa using f1)
              rwa [numN_cellN] at this
            refine hnx _ ⟨T9, rfl, c3, c4, fun n => ?_⟩
            rw [htk, List.mem_append, c5]
            constructor
            · rintro (h | h)
              · exact .inl h
              · exact .inr (.inl h)
            · rintro (h | h | h)
              · exact .inl h
              · exact .inr h
              · simp at h; subst h; exact (c5 _).1 hin
        · obtain ⟨T9, c1, c3, c4, c5⟩ := hJ
          subst c1
          have c5' : ∀ n, n ∈ T9 ↔ n ∈ T ∨ n ∈ (3 * start :: l2).map (· / 3) := fun n => by
            rw [c5 n, List.take_of_length_le (by simp [cellsS])]
          have hway : TWay g c T q d (best.map kW) start l2 T9 := ⟨hG, hsT, a9.key, fun n hn hnd2 => (a9.least n hn d hnd2 a9.pos).2 rfl, hgo, c3, c4, c5'⟩
          have hgrow := nodup_grow hnd a3 c3 (fun n hn => (c5' n).2 (by
            rcases hn with h | h
            · exact .inl h
            · subst h; exact .inr (goes_end hG hgo a9.key)))
          have hT9l := nodup_len _ _ c3 (fun n hn => (c4 n hn).1)
          refine hX ((grG g).N - T9.length) _ (by omega) ⟨T9, c3, c4, (c5' _).2 (.inl hn0T), rfl, by simp only [List.length_append, List.length_singleton]; omega, fun W hr => ?_, rfl⟩
          have := hQ _ (.step hpick hway hr)
          simp only [List.append_assoc, List.singleton_append]
          exact this
theorem S_ref_Tree {Q : List (List Cell) → Bool → Int → Prop} (h1 : treeF g c pins ≠ 0 → Q [] false (treeF g c pins)) (h2 : treeF g c pins = 0 → ∀ W, TreeRun g c pins [numN g (pins.getD 0 default)] W true → Q W true 0)
    (h3 : treeF g c pins = 0 → (∃ p ∈ pins, ¬ Conn (grC g c) (numN g (pins.getD 0 default)) (numN g p)) → Q [] false 0) : M_ref7_Tree g c pins Q := by
  unfold M_ref7_Tree
  refine S_askGrid (cnd_of (fun e => ?_) (fun e => ?_))
  · have e' : bothF g c ≠ 0 := by simpa using e
    unfold treeF at h1; rw [if_pos e'] at h1; exact h1 e'
  · have e' : bothF g c = 0 := by simpa using e
    obtain ⟨hg, hc⟩ := bothF_zero e'
    have et : treeF g c pins = pinsF g pins 50 := by unfold treeF; rw [if_neg (by simp [e'])]
    refine S_ref_checkPins hg ?_
    rw [← et]
    refine cnd_of (fun e2 => h1 (by simpa using e2)) (fun e2 => ?_)
    have e3 : treeF g c pins = 0 := by simpa using e2
    obtain ⟨_, _, _, a1, a2, a3, a4⟩ := treeF_zero e3
    exact S_treeOf hg hc a1 (by omega) a4 (h2 e3) (h3 e3)
end
end Go.Proofs.Ytihjaehkdgdenaa
