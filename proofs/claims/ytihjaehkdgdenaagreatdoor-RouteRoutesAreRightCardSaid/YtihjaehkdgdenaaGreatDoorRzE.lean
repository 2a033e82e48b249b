/- Chapter texts of ours, as far as the claim needs them. -/
import Derived.Test.YtihjaehkdgdenaaGreatDoorRzD
namespace Go.Proofs.YtihjaehkdgdenaaGreatDoor
open Go Go.RowKit
set_option linter.unusedVariables false
set_option linter.unusedSectionVars false
set_option linter.unusedSimpArgs false
def ints (l : List Nat) : List Int := l.map (fun i : Nat => (i : Int))
theorem ints_len (l : List Nat) : (ints l).length = l.length := List.length_map _
theorem ints_snoc (l : List Nat) (i : Nat) : ints l ++ [(i : Int)] = ints (l ++ [i]) := by unfold ints; rw [List.map_append]; rfl
theorem S_marksR {g : Grid} (hs : Sz g) {L A : List Cell} (hL : ∀ c ∈ L, inG g c = true) {l : List Bool} (hl : Mk g A l) {next : List Bool → Prop} (h : ∀ l', Mk g (A ++ L) l' → next l') {k : Nat} : M_route_round_L4 g k L l next := by
  unfold M_route_round_L4
  refine forIn0 (fun j (m : List Bool) => Mk g (A ++ L.take j) m) (by simpa using hl) (fun j c m hc hJ nx hnn => ?_) (fun m hJ => ?_)
  · unfold M_route_round_L5
    have hin := hL c (List.mem_of_getElem? hc)
    have hlt := numN_lt hs hin
    refine S_number hs hin (idx_nat (List.getElem?_eq_getElem (by rw [hJ.1]; exact hlt)) ?_)
    rw [Int.toNat_natCast]
    refine hnn _ ?_
    rw [List.take_add_one, hc, ← List.append_assoc]
    exact hJ.set hs hin
  · rw [List.take_length] at hJ; exact h m hJ
theorem S_route_round {g : Grid} (h0 : gridF g = 0) {c : Costs} (hc : COk c) {t : List Task} (ok : TOk g t) {row : List Nat} (hnd : row.Nodup) (hlt : ∀ i ∈ row, i < t.length) {Q : List (List (List Cell)) → List Int → Prop}
    (h : ∀ U out F, RPre g c t row U out F → Q out (ints F)) : M_route_round g c t (ints row) Q := by
  have hs := ok.gok.sz
  have hN := ok.gok.N
  have htl := ok.len
  have hnl : (noOf g).length = (grG g).N := by unfold noOf; simp
  unfold M_route_round
  refine S_blocked ok.gok ⟨⟨by omega, by omega⟩, ?_⟩
  rw [hnl]
  refine S_pinsArr ok fun arr harr => ⟨⟨by omega, by omega⟩, ?_⟩
  show forIn' _ _ (ints row) 0 (([] : List Int), (List.replicate t.length ([] : (List (List Cell)))), noOf g)
  have mk0 : Mk g [] (noOf g) := ⟨hnl, fun n hn => by rw [noOf_get hn]; congr 1; unfold hasN; simp⟩
  refine forIn0 (fun k (s : List Int × List (List (List Cell)) × List Bool) => ∃ U F, s.1 = ints F ∧ RPre g c t (row.take k) U s.2.1 F ∧ Mk g U s.2.2 ∧ k ≤ row.length) ⟨[], [], rfl, .nil, mk0, Nat.zero_le _⟩ (fun k x s hx hI next hn => ?_) (fun s hI => ?_)
  · obtain ⟨U, F, hF, hR, hM, hk⟩ := hI
    obtain ⟨l6, out, l8⟩ := s
    simp only at hF hR hM
    subst hF
    obtain ⟨i, hi, rfl⟩ : ∃ i : Nat, row[k]? = some i ∧ (i : Int) = x := by
      unfold ints at hx
      rw [List.getElem?_map] at hx
      cases hr : row[k]? with
      | none => rw [hr] at hx; cases hx
      | some i => rw [hr] at hx; injection hx with hx; exact ⟨i, rfl, hx⟩
    have hil := hlt i (List.mem_of_getElem? hi)
    have hkr := lt_of_get hi
    have hu := List.getElem?_eq_getElem hil
    obtain ⟨u, hu⟩ : ∃ u, t[i]? = some u := ⟨_, hu⟩
    have htk : row.take (k + 1) = row.take k ++ [i] := by rw [List.take_add_one, hi]; rfl
    have hndk : (row.take (k + 1)).Nodup := hnd.sublist (List.take_sublist _ _)
    rw [htk] at hndk
    have hnd' := List.nodup_append.1 hndk
    have hid : i ∉ row.take k := fun h => hnd'.2.2 i h i (by simp) rfl
    have f := hR.fact h0 hc ok hnd'.1
    have hX := round_in (i := i) ok f.uin
    have hpf := pins_free ok f.uin f.upin hid hu
    have hgX := gridF_zero (blocked_grid h0 hX)
    obtain ⟨p1, p2, p3, p4⟩ := ok.pins u (List.mem_of_getElem? hu)
    have hFl : F.length ≤ 100 := by
      have h1 := nodup_len t.length F f.fnd (fun j hj => hlt j (List.mem_of_mem_take (f.fsub j hj)))
      omega
    show M_route_round_L2 g c t arr k (i : Int) (ints F) out l8 (fun l6 l7 l8 => next (l6, l7, l8))
    unfold M_route_round_L2
    have go : forIn' (fun k x (s : List Bool) next => M_route_round_L3 (i : Int) k x s (fun l10 => next l10)) (fun (s : List Bool) => (fun (l10 : List Bool) => idx t (i : Int) fun x1 => M_finder_tree (⟨g, c, l10⟩ : RouteFinder) x1.Pins fun y3 y4 => cnd (!y4) (must (room (ints F ++ [(i : Int)]).length 8) (next (ints F ++ [(i : Int)], out, l8))) (idx out (i : Int) fun x2 => forIn' (fun k x (s : List Bool) next => M_route_round_L4 g k x s (fun l12 => next l12)) (fun (s : List Bool) => (fun (l12 : List Bool) => next (ints F, out.set (i : Int).toNat y3, l12)) s) y3 0 l8)) s) arr 0 l8 := by
      refine forIn0 (fun m (l : List Bool) => l.length = (grG g).N ∧ ∀ n, n < (grG g).N → l[n]? = some ((hasN g g.Blocked n || hasN g U n) || (decide (n < m) && hasN g (othersL t i) n))) ⟨hM.1, fun n hn => by rw [hM.2 n hn]; simp⟩ (fun m v l hv hJ nx hnn => ?_) (fun l hJ => ?_)
      · have hmN : m < (grG g).N := by have := lt_of_get hv; rw [harr.1] at this; exact this
        obtain ⟨v', hv', hown⟩ := owner_others ok harr hmN hil
        rw [hv] at hv'; injection hv' with hv'; subst hv'
        have keep : hasN g (othersL t i) m = false → nx l := fun e => hnn _ ⟨hJ.1, fun n hn => by
          rw [hJ.2 n hn]
          by_cases en : n = m
          · subst en; rw [e]; simp
          · have : decide (n < m + 1) = decide (n < m) := by rw [decide_eq_decide]; omega
            rw [this]⟩
        have put : hasN g (othersL t i) m = true → nx (l.set m true) := fun e => hnn _ ⟨by rw [List.length_set]; exact hJ.1, fun n hn => by
          rw [set_get' (by rw [hJ.1]; exact hmN)]
          by_cases en : n = m
          · subst en; rw [if_pos rfl, e]; simp
          · rw [if_neg en, hJ.2 n hn]
            have : decide (n < m + 1) = decide (n < m) := by rw [decide_eq_decide]; omega
            rw [this]⟩
        have k6 : ∀ b, b = hasN g (othersL t i) m → M_route_round_k6 m l nx b := by
          rintro b rfl
          unfold M_route_round_k6
          exact cnd_of (fun e => idx_nat (List.getElem?_eq_getElem (by rw [hJ.1]; exact hmN)) (put e)) keep
        unfold M_route_round_L3
        refine cnd_of (fun e => k6 _ ?_) (fun e => k6 _ ?_)
        · rw [e, Bool.true_and] at hown; exact hown
        · rw [e, Bool.false_and] at hown; exact hown
      · have hMk : Mk g (U ++ othersL t i) l := ⟨hJ.1, fun n hn => by
          rw [hJ.2 n hn, hasN_append]
          have : decide (n < arr.length) = true := decide_eq_true (by rw [harr.1]; exact hn)
          rw [this, Bool.true_and, Bool.or_assoc]⟩
        refine idx_nat hu ?_
        rw [mk_noOf hMk]
        refine tree_same (B := blockedL g (U ++ othersL t i)) ?_
        refine S_finder_tree (g := blockedG g (U ++ othersL t i)) hgX hc p1 (by omega) hpf fun W okb hT => ?_
        cases okb with
        | false =>
          refine cnd_of (fun _ => ⟨⟨by rw [List.length_append, ints_len, List.length_singleton]; omega, by rw [List.length_append, ints_len, List.length_singleton]; omega⟩, hn _ ⟨U, F ++ [i], ints_snoc F i, ?_, hM, by omega⟩⟩) (fun e => by cases e)
          rw [htk]; exact .bad hR hu hT
        | true =>
          refine cnd_of (fun e => by cases e) (fun _ => idx_nat (List.getElem?_eq_getElem (by rw [f.len]; exact hil)) ?_)
          have hr := hT.right hgX hc
          have hWin : ∀ w ∈ W, ∀ c ∈ w, inG g c = true := fun w hw c hcw => by
            have h1 := (wayF_less ok.gok hX (hr w hw)).1
            obtain ⟨j, hj⟩ := List.getElem?_of_mem hcw
            exact (wayBad_in ((cells_of_way h1).2.2 j c hj)).1
          refine forIn0 (fun j (m : List Bool) => Mk g (U ++ (W.take j).flatten) m) (by simpa using hM) (fun j w m hw hJ2 nx hnn => ?_) (fun m hJ2 => ?_)
          · refine S_marksR hs (hWin w (List.mem_of_getElem? hw)) hJ2 fun l' hl' => hnn _ ?_
            have hw' : W[j]? = some w := hw
            rw [List.take_add_one, hw', List.flatten_append, ← List.append_assoc]
            simpa using hl'
          · have hJ3 : Mk g (U ++ W.flatten) m := by
              have e : (W.take W.length).flatten = W.flatten := by rw [List.take_length]
              rw [← e]; exact hJ2
            refine hn _ ⟨U ++ W.flatten, F, rfl, ?_, hJ3, by omega⟩
            rw [htk, Int.toNat_natCast]
            exact .good hR hu hT
    intro b hb
    refine cnd_of (fun e => ?_) (fun e => ?_)
    · rw [← hb e]; exact go
    · rw [List.nil_append]
      exact ⟨⟨by rw [hM.1]; omega, by rw [hM.1]; omega⟩, go⟩
  · obtain ⟨U, F, hF, hR, hM, hk⟩ := hI
    rw [ints_len, List.take_length] at hR
    show Q s.2.1 s.1
    rw [hF]; exact h U _ F hR
end Go.Proofs.YtihjaehkdgdenaaGreatDoor
