/- Chapter texts of ours, as far as the claim needs them. -/
import Derived.Test.YtihjaehkdgdenaaRtU
import Derived.Test.YtihjaehkdgdenaaRtR
import Derived.Test.YtihjaehkdgdenaaRtN4
namespace Go.Proofs.Ytihjaehkdgdenaa
open Go Go.RowKit
set_option linter.unusedVariables false
set_option linter.unusedSimpArgs false
section
variable {g : Grid} {c : Costs}
theorem kW_way (hg : GOk g) (hc : COk c) {b : Nat} {best : List R7Worth} (hf : FldOk g c b best) {s : Nat} {w : R7Worth} (hw : best[s]? = some w) : (w.cells > 1 ↔ 0 < kW w) ∧ (w.cells = 0 ↔ kW w < 0) ∧ (0 ≤ kW w → kW w = w.cost * kB + w.cells - 1 ∧ 1 ≤ w.cells) := by
  have hkB : kB = 1048576 := rfl
  have hk : (best.map kW)[s]? = some (kW w) := by rw [List.getElem?_map, hw]; rfl
  rcases hf.val s w hw with rfl | ⟨h1, h2, h3, h4⟩
  · exact ⟨by decide, by decide, by decide⟩
  · have e : kW w = w.cost * kB + w.cells - 1 := by unfold kW keyP pw; rw [if_neg (by simp only; omega)]
    have hp : 0 ≤ kW w := by rw [e, hkB]; omega
    refine ⟨⟨fun h => by rw [e, hkB]; omega, fun h => ?_⟩, ⟨fun h => by omega, fun h => by omega⟩, fun _ => ⟨e, h3⟩⟩
    obtain ⟨k, n, wk, ek, _, hn⟩ := hf.least.way s _ hk hp
    have hN := hg.N
    cases wk with
    | start _ => simp at ek; omega
    | step _ _ => rw [e, hkB] at ek; push_cast at ek; omega
theorem S_field_way (hg : GOk g) (hc : COk c) {b : Nat} {best : List R7Worth} (hf : FldOk g c b best) (hT : (grC g c).ToGoal b (best.map kW)) {n : Nat} (hn : n < (grG g).N) {d : Int} (hd : (best.map kW)[3 * n]? = some d) (h0 : 0 ≤ d) {Q : List Cell → Prop} (h : ∀ l, (grC g c).Goes (best.map kW) (3 * n) l → Q (cellsS g (3 * n :: l))) : M_field_way ⟨g, c, noOf g, best⟩ (cellN g n) Q := by
  have hN := hg.N
  have hkB : kB = 1048576 := rfl
  obtain ⟨full, hfull⟩ := hT.goes _ _ _ hd h0 (Nat.le_refl _)
  have hlen := (goes_len hT hfull hd h0).1
  have hlen' : (3 * n :: full).length ≤ (grG g).N := hlen
  have hF : FOk ⟨g, c, noOf g, best⟩ := ⟨hg, hc, rfl⟩
  unfold M_field_way
  refine lp_measN (fun m (s : List Cell × Cell × Int) => ∃ (pre : List Nat) (u : Nat) (rest : List Nat), s.2.1 = cellN g (u / 3) ∧ s.2.2 = ((u % 3 : Nat) : Int) ∧ s.1 = cellsS g (pre ++ [u]) ∧ (grC g c).Goes (best.map kW) u rest ∧ pre ++ u :: rest = 3 * n :: full ∧ rest.length = m) (n := full.length) ⟨[], 3 * n, full, by rw [show 3 * n / 3 = n by omega], by simp only; omega, by simp only [cellsS, List.nil_append, List.map_cons, List.map_nil]; rw [show 3 * n / 3 = n by omega], hfull, rfl, rfl⟩ ?_
  rintro m ⟨l2, b2, n2⟩ X ⟨pre, u, rest, h1, h2, h2', h3, h4, h5⟩ hX
  simp only at h1 h2 h2'
  subst h1; subst h2; subst h2'
  show M_field_way_L1 _ (cellN g n) Q (fun l2 b2 n2 => X (l2, b2, n2)) _ (cellN g (u / 3)) ((u % 3 : Nat) : Int)
  have hpl : (pre ++ u :: rest).length ≤ (grG g).N := by rw [h4]; exact hlen'
  have hug : ∃ du, (best.map kW)[u]? = some du ∧ 0 ≤ du := by
    cases h3 with
    | stop hu hz => exact ⟨_, hu, by omega⟩
    | step hu hpos _ _ => exact ⟨_, hu, by omega⟩
  obtain ⟨du, hu, hu0⟩ := hug
  have hus := hT.free_of hu hu0
  have huN : u < 3 * (grG g).N := hus.1
  have huc : u / 3 < (grG g).N := by omega
  obtain ⟨w, hw, hkw⟩ := fld_get hg hf huN
  rw [hu] at hkw; injection hkw with hkw
  have hinu := cellN_in hg.sz huc
  have eat : w64 ((w64 (3 * ((u / 3 : Nat) : Int))) + ((u % 3 : Nat) : Int)) = (u : Int) := by rw [w64_id (n := 3 * _) (by omega) (by omega), w64_id] <;> omega
  obtain ⟨c1, c2, c3⟩ := kW_way hg hc hf hw
  unfold M_field_way_L1
  refine S_field_at (f := ⟨g, c, noOf g, best⟩) hg.sz hinu ?_
  rw [numN_cellN, eat]
  refine idx_nat hw ?_
  cases h3 with
  | stop hu' hz =>
    rw [hu] at hu'; injection hu' with hu'
    rw [decide_eq_false (fun hh => by have := c1.1 hh; omega)]
    simp only [cnd_false]
    rw [h4]; exact h full hfull
  | @step _ t du' k l hu' hpos hp hg' =>
    rw [hu] at hu'; injection hu' with hu'; subst hu'
    rw [decide_eq_true (c1.2 (by omega))]
    simp only [cnd_true]
    refine S_field_at (f := ⟨g, c, noOf g, best⟩) hg.sz hinu ?_
    rw [numN_cellN, eat]
    refine idx_nat hw ?_
    refine S_neighbours (f := ⟨g, c, noOf g, best⟩) hF huc ?_
    obtain ⟨ew, hw1⟩ := c3 (by omega)
    have hwv : 0 ≤ w.cost ∧ w.cost ≤ 360000000 ∧ 1 ≤ w.cells ∧ w.cells ≤ 120000 := by
      rcases hf.val u w hw with rfl | hv
      · exact absurd hw1 (by decide)
      · exact hv
    have loop : ∀ (R L : List (Nat × Int)) (kk : Nat), (grC g c).nbrs (u / 3) = L ++ R → Gr.pick (best.map kW) du (L.flatMap ((grC g c).el false u)) = none →
        forIn' (fun k x (s : Unit) next => M_field_way_L2 ⟨g, c, noOf g, best⟩ (cellN g n) (cellsS g (pre ++ [u])) (cellN g (u / 3)) ((u % 3 : Nat) : Int) (fun l2 b2 n2 => X (l2, b2, n2)) w k x (next ())) (fun (s : Unit) => (fun l2 b2 n2 => X (l2, b2, n2)) (cellsS g (pre ++ [u])) (cellN g (u / 3)) ((u % 3 : Nat) : Int)) (R.map (fun e => cellN g e.1)) kk () := by
      intro R
      induction R with
      | nil =>
        intro L kk hL hn
        rw [List.append_nil] at hL
        rw [← hL] at hn
        have hp2 : Gr.pick (best.map kW) du ((grC g c).E false u) = some (t, k) := hp
        rw [show (grC g c).E false u = ((grC g c).nbrs (u / 3)).flatMap ((grC g c).el false u) from rfl, hn] at hp2
        cases hp2
      | cons q r ih =>
        intro L kk hL hn
        obtain ⟨m', al⟩ := q
        have hmem : (m', al) ∈ (grC g c).nbrs (u / 3) := by rw [hL]; simp
        obtain ⟨hnb, hfree⟩ := ((grC g c).mem_nbrs (n := u / 3) (m := m') (al := al) (by exact huc)).1 hmem
        have hax := Gr.Nb.ax hnb
        have hm' : m' < (grG g).N := hnb.2.1
        have hinm := cellN_in hg.sz hm'
        show M_field_way_L2 _ _ _ _ _ _ _ kk (cellN g m') (forIn' _ _ (r.map (fun e => cellN g e.1)) (kk + 1) ())
        unfold M_field_way_L2
        refine S_along hg.sz hinu hinm ?_
        rw [show axC (cellN g (u / 3)) (cellN g m') = al from axC_nb hnb]
        -- the state of the neighbour
        obtain ⟨j, hj⟩ : ∃ j : Nat, j = (if al = 3 then u % 3 else al.toNat) := ⟨_, rfl⟩
        have hj3 : j < 3 := by rw [hj]; split <;> omega
        have hon := Gr.on_E (G := grC g c) hus.1 hnb hfree
        rw [← hj] at hon
        obtain ⟨hsc1, hsc2⟩ := step_cost hg hc huN hon
        have hcost := Gr.E_cost hT.ok hus.1 hon
        rw [show (3 * m' + j) / 3 = m' by omega, show (3 * m' + j) % 3 = j by omega, show axC (cellN g (u / 3)) (cellN g m') = al from axC_nb hnb] at hsc2
        generalize hkk : (if al = 3 then (grC g c).via else (grC g c).base m' al + (grC g c).tn ((u % 3 : Nat) : Int) al) = ck at hon hsc2 hcost
        have hel : (grC g c).el false u (m', al) = [(3 * m' + j, ck)] := by
          rw [el_on, ← hj]
          by_cases h3 : al = 3
          · rw [if_pos h3] at hkk ⊢; rw [hkk]
          · rw [if_neg h3] at hkk ⊢; rw [Gr.Nb.base _ hnb, hkk]
        have go : M_field_way_k3 ⟨g, c, noOf g, best⟩ (cellN g n) (cellsS g (pre ++ [u])) ((u % 3 : Nat) : Int) (fun l2 b2 n2 => X (l2, b2, n2)) w (cellN g m') (forIn' (fun k x (s : Unit) next => M_field_way_L2 ⟨g, c, noOf g, best⟩ (cellN g n) (cellsS g (pre ++ [u])) (cellN g (u / 3)) ((u % 3 : Nat) : Int) (fun l2 b2 n2 => X (l2, b2, n2)) w k x (next ())) (fun (s : Unit) => (fun l2 b2 n2 => X (l2, b2, n2)) (cellsS g (pre ++ [u])) (cellN g (u / 3)) ((u % 3 : Nat) : Int)) (r.map (fun e => cellN g e.1)) (kk + 1) ()) al (j : Int) := by
          unfold M_field_way_k3
          refine S_field_at (f := ⟨g, c, noOf g, best⟩) hg.sz hinm ?_
          rw [numN_cellN, show w64 ((w64 (3 * (m' : Int))) + (j : Int)) = ((3 * m' + j : Nat) : Int) by rw [w64_id (n := 3 * _) (by omega) (by omega), w64_id] <;> omega]
          obtain ⟨v, hv, hkv⟩ := fld_get hg hf (s := 3 * m' + j) (by omega)
          refine idx_nat hv ?_
          have hvv := hf.val _ v hv
          obtain ⟨d1, d2, d3⟩ := kW_way hg hc hf hv
          have hcells : v.cells ≤ 120000 ∧ 0 ≤ v.cells ∧ 0 ≤ v.cost ∧ v.cost ≤ 360000000 := by
            rcases hvv with rfl | hv2
            · decide
            · omega
          have hsn : fnd (Gr.pick (best.map kW) du ((L ++ [(m', al)]).flatMap ((grC g c).el false u))) = if 0 ≤ kW v ∧ kW v + (ck * kB + 1) = du then ((3 * m' + j : Nat) : Int) else -1 := by
            rw [List.flatMap_append, List.flatMap_cons, List.flatMap_nil, List.append_nil, hel, pick_snoc, hn]
            rw [show fnd none = -1 from rfl]
            simp only [Gr.getD_some hkv]
            by_cases hc9 : 0 ≤ kW v ∧ kW v + (ck * kB + 1) = du
            · rw [if_pos hc9, if_pos ⟨by decide, hc9⟩]
            · rw [if_neg hc9, if_neg (fun hh => hc9 hh.2)]
          -- not this one
          have next : ¬ (0 ≤ kW v ∧ kW v + (ck * kB + 1) = du) → M_field_way_k4 (cellsS g (pre ++ [u])) (fun l2 b2 n2 => X (l2, b2, n2)) (cellN g m') (forIn' (fun k x (s : Unit) next => M_field_way_L2 ⟨g, c, noOf g, best⟩ (cellN g n) (cellsS g (pre ++ [u])) (cellN g (u / 3)) ((u % 3 : Nat) : Int) (fun l2 b2 n2 => X (l2, b2, n2)) w k x (next ())) (fun (s : Unit) => (fun l2 b2 n2 => X (l2, b2, n2)) (cellsS g (pre ++ [u])) (cellN g (u / 3)) ((u % 3 : Nat) : Int)) (r.map (fun e => cellN g e.1)) (kk + 1) ()) (j : Int) false := fun hno => by
            unfold M_field_way_k4
            simp only [cnd_false]
            refine ih (L ++ [(m', al)]) (kk + 1) (by rw [hL]; simp) ?_
            rw [if_neg hno] at hsn
            cases hq : Gr.pick (best.map kW) du ((L ++ [(m', al)]).flatMap ((grC g c).el false u)) with
            | none => rfl
            | some e => rw [hq] at hsn; simp only [fnd] at hsn; omega
          rw [show w64 (w.cells - 1) = w.cells - 1 by rw [w64_id] <;> omega]
          refine cnd_of (fun e => ?_) (fun e => ?_)
          · have ec : v.cells = w.cells - 1 := by simpa using e
            refine S_ref_stepCost ?_
            simp only
            rw [hsc2]
            rw [show w64 (v.cost + ck) = v.cost + ck by rw [w64_id] <;> omega]
            have hwc : 1 < w.cells := c1.2 (by omega)
            have hv0 : 0 ≤ kW v := by
              have := d2.2
              by_cases hh : 0 ≤ kW v
              · exact hh
              · have := d2.2 (by omega); omega
            obtain ⟨ev, _⟩ := d3 hv0
            by_cases hcc : v.cost + ck = w.cost
            · rw [show (v.cost + ck == w.cost) = true by simpa using hcc]
              have hyes : 0 ≤ kW v ∧ kW v + (ck * kB + 1) = du := ⟨hv0, by rw [hkw, ev, ew, ← hcc, Int.add_mul]; omega⟩
              -- this one it is
              have ht : t = 3 * m' + j := by
                rw [if_pos hyes] at hsn
                have hp2 : Gr.pick (best.map kW) du ((grC g c).E false u) = some (t, k) := hp
                rw [show (grC g c).E false u = ((grC g c).nbrs (u / 3)).flatMap ((grC g c).el false u) from rfl, hL, show L ++ (m', al) :: r = (L ++ [(m', al)]) ++ r by simp, List.flatMap_append] at hp2
                cases hq : Gr.pick (best.map kW) du ((L ++ [(m', al)]).flatMap ((grC g c).el false u)) with
                | none => rw [hq] at hsn; simp only [fnd] at hsn; omega
                | some e =>
                  rw [hq] at hsn
                  simp only [fnd] at hsn
                  unfold Gr.pick at hp2 hq
                  rw [List.find?_append, hq] at hp2
                  simp only [Option.or] at hp2
                  injection hp2 with hp2
                  rw [hp2] at hsn
                  simp only at hsn
                  omega
              unfold M_field_way_k4
              simp only [cnd_true]
              simp only [List.length_append, List.length_cons] at hpl
              refine ⟨room_of (by simp only [cellsS, List.length_append, List.length_map, List.length_singleton]; omega) (by decide), ?_⟩
              subst ht
              refine hX l.length _ (by rw [← h5]; simp) ⟨pre ++ [u], 3 * m' + j, l, by simp only; rw [show (3 * m' + j) / 3 = m' by omega], by simp only; rw [show (3 * m' + j) % 3 = j by omega], ?_, hg', by rw [List.append_assoc]; exact h4, rfl⟩
              simp only [cellsS, List.map_append, List.map_cons, List.map_nil]
              rw [show (3 * m' + j) / 3 = m' by omega]
            · rw [show (v.cost + ck == w.cost) = false by simpa using hcc]
              exact next (fun hh => hcc (by rw [hkw, ev, ew, hkB] at hh; omega))
          · have ec : v.cells ≠ w.cells - 1 := by simpa using e
            exact next (fun hh => by
              obtain ⟨ev, hv1⟩ := d3 hh.1
              rw [hkw, ev, ew, hkB] at hh
              omega)
        by_cases h3 : al = 3
        · rw [if_pos h3] at hj
          rw [show (al == 3) = true by simpa using h3]
          simp only [cnd_true]
          rw [← hj]
          rw [← hj] at go
          exact go
        · rw [if_neg h3] at hj
          rw [show (al == 3) = false by simpa using h3]
          simp only [cnd_false]
          have hja : (j : Int) = al := by omega
          rw [hja] at go
          exact go
    exact loop _ [] 0 rfl rfl
end
end Go.Proofs.Ytihjaehkdgdenaa
