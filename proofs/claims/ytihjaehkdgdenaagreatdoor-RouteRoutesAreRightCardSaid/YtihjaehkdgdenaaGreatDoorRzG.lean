/- Chapter texts of ours, as far as the claim needs them. -/
import Derived.Test.YtihjaehkdgdenaaGreatDoorRzA
import Derived.Test.YtihjaehkdgdenaaGreatDoorRyB
import Derived.Test.YtihjaehkdgdenaaGreatDoorRtC
import Derived.Test.YtihjaehkdgdenaaGreatDoorRzF
import Derived.Test.YtihjaehkdgdenaaGreatDoorRtS
namespace Go.Proofs.YtihjaehkdgdenaaGreatDoor
open Tryz Go Go.RowKit
set_option linter.unusedVariables false
set_option linter.unusedSectionVars false
set_option linter.unusedSimpArgs false
def M_law_RoutesRight_k1 (g : Grid) (c : Costs) (t : (List Task)) (tries : Int) (more : Int) (Q : Bool → Prop) (y1 : (List Routed)) (c1 : Bool) : Prop :=
  cnd c1 (Q false) (cnd (decide (more < tries)) (Q true) (M_route_Route g c t more fun y4 y5 => cnd (y5 != 0) (Q true) (Q (decide ((y4.length : Int) ≥ (y1.length : Int))))))
def M_law_RoutesRight (g : Grid) (c : Costs) (t : (List Task)) (tries : Int) (more : Int) (Q : Bool → Prop) : Prop :=
  M_route_Route g c t tries fun y1 y2 => cnd (y2 != 0) (cnd ((y1.length : Int) == 0) (M_route_awake  fun y3 => Q y3) (Q false)) (M_route_CheckRouted g t y1 fun y6 => cnd (y6 != 0) (M_law_RoutesRight_k1 g c t tries more Q y1 true) (M_route_awake  fun y7 => M_law_RoutesRight_k1 g c t tries more Q y1 (!y7)))
set_option maxHeartbeats 1000000 in
theorem R_law_RoutesRight (g : Grid) (c : Costs) (t : (List Task)) (tries : Int) (more : Int) (w0 : World) (g_BlockedA : Option Addr) (g_BlockedC : Nat) (hv_g_Blocked : View w0 (old w0 none_) g_BlockedA g_BlockedC g.Blocked) (tA : Option Addr) (tC : Nat) (hv_t : View w0 (old w0 none_) tA tC t) (Q : Bool → Prop) (h : M_law_RoutesRight g c t tries more Q) :
  Ret Tryz.prog 5 #[.agg #[iv g.W, iv g.H, iv g.Layers, .slice g_BlockedA g.Blocked.length g_BlockedC], .agg #[iv c.Step, iv c.Via, iv c.Turn, iv c.Against], .slice tA t.length tC, iv tries, iv more] w0 fun v w' => ∃ (r0 : Bool), v = .bool r0 ∧ Q r0 ∧ Sat w0 none_ [] w' := by
 refine fn_enter func5 rfl ntmps5 rfl (fs := [(0, .agg #[iv g.W, iv g.H, iv g.Layers, .slice g_BlockedA g.Blocked.length g_BlockedC]), (1, .agg #[iv c.Step, iv c.Via, iv c.Turn, iv c.Against]), (2, .slice tA t.length tC), (3, iv tries), (4, iv more)]) rfl (fun a hf => ?_)
 have hs := Sat.start w0 none_
 unfold M_law_RoutesRight at h
 refine X.l (S.box hf hs rfl rfl rfl [iv g.W, iv g.H, iv g.Layers, .slice g_BlockedA g.Blocked.length g_BlockedC] rfl rfl rfl (fun g1 a w hf hs => S.box hf hs rfl rfl rfl [iv c.Step, iv c.Via, iv c.Turn, iv c.Against] rfl rfl rfl (fun g2 a w hf hs => S.q hf hs (.bool false) rfl fun a hf => X.n (X.l (S.v hf hs (.agg #[iv g.W, iv g.H, iv g.Layers, .slice g_BlockedA g.Blocked.length g_BlockedC]) rfl (V.loadBox 1 rfl rfl rfl isAgg24 sizeOf24 rfl rfl) fun a hf => S.v hf hs (.agg #[iv c.Step, iv c.Via, iv c.Turn, iv c.Against]) rfl (V.loadBox 0 rfl rfl rfl isAgg26 sizeOf26 rfl rfl) fun a hf => S.q hf hs (.slice tA t.length tC) rfl fun a hf => S.q hf hs (iv tries) rfl fun a hf => S.call hf rfl rfl rfl (call_fn (vs := [.agg #[iv g.W, iv g.H, iv g.Layers, .slice g_BlockedA g.Blocked.length g_BlockedC], .agg #[iv c.Step, iv c.Via, iv c.Turn, iv c.Against], .slice tA t.length tC, iv tries]) rfl rfl rfl call14) (R_route_Route g c t tries _ g_BlockedA g_BlockedC ((Ag.args _ _ _).view hv_g_Blocked hs) tA tC ((Ag.args _ _ _).view hv_t hs) _ h) (fun v a w' hf hr => ?_))))))
 obtain ⟨y1, y1A, y1C, y1as, y2, rfl, h2, hs2⟩ := hr
 replace h := h2; replace hs := hs.call hs2; clear h2 hs2
 refine S.q hf hs (.tuple #[.slice y1A y1.length y1C, iv y2]) rfl fun a hf => S.q hf hs (.slice y1A y1.length y1C) rfl fun a hf => S.q hf hs (iv y2) rfl fun a hf => S.q hf hs (.slice y1A y1.length y1C) rfl fun a hf => S.q hf hs (iv y2) rfl fun a hf => X.n (wp_seq (X.l (S.q hf hs (iv y2) rfl fun a hf => S.q hf hs (.bool (y2 != 0)) rfl fun a hf => X.n ?_)))
 refine C.cond hf (b := y2 != 0) rfl (fun hc => ?_) (fun hc => ?_)
 ·replace h := h.1 hc
  refine X.l (S.q hf hs (.slice y1A y1.length y1C) rfl fun a hf => S.v hf hs (iv (y1.length : Int)) rfl (V.len rfl rfl runUnderlying28) fun a hf => S.q hf hs (.bool ((y1.length : Int) == 0)) rfl fun a hf => ?_)
  refine S.split hf hs (b := (y1.length : Int) == 0) rfl rfl rfl (V.pure rfl) (fun hc a hf => ?_) (fun hc a hf => ?_)
  ·replace h := h.1 hc
   refine S.call hf rfl rfl rfl (call_fn (vs := []) rfl rfl rfl call13) (R_route_awake  _  _ h) (fun v a w' hf hr => ?_)
   obtain ⟨y3, rfl, h2, hs2⟩ := hr
   replace h := h2; replace hs := hs.call hs2; clear h2 hs2
   refine S.q hf hs (.bool y3) rfl fun a hf => S.q hf hs (.bool y3) rfl fun a hf => X.n (wp_ret (X.then_ret ?_))
   exact L.ret hf (run_results1 results5 (ResIs.tmp hf rfl)) ⟨y3, rfl, h, hs.nil⟩
  ·replace h := h.2 hc
   refine S.k hf rfl fun a hf => S.q hf hs (.bool false) rfl fun a hf => S.q hf hs (.bool false) rfl fun a hf => X.n (wp_ret (X.then_ret ?_))
   exact L.ret hf (run_results1 results5 (ResIs.tmp hf rfl)) ⟨false, rfl, h, hs.nil⟩
 ·replace h := h.2 hc
  refine wp_skip (X.then_ (wp_seq (wp_seq ?_)))
  refine C.cut (J := fun a w => ∃ (c1 : Bool), M_law_RoutesRight_k1 g c t tries more Q y1 c1 ∧ FrOk 59 [(2, .slice tA t.length tC), (3, iv tries), (4, iv more), (5, (pn g1 0)), (6, (pn g2 0)), (11, .slice y1A y1.length y1C), (38, .bool c1)] a ∧ Sat w0 none_ [hdeep 47 22 55 y1A y1C y1as y1, hbox g2 26 [iv c.Step, iv c.Via, iv c.Turn, iv c.Against], hbox g1 24 [iv g.W, iv g.H, iv g.Layers, .slice g_BlockedA g.Blocked.length g_BlockedC]] w) ?_ ?_
  ·rintro a w ⟨c1, h, hf, hs⟩
   unfold M_law_RoutesRight_k1 at h
   refine C.cond hf (b := c1) rfl (fun hc => ?_) (fun hc => ?_)
   ·replace h := h.1 hc
    refine X.l (S.q hf hs (.bool false) rfl fun a hf => X.n (wp_ret (X.then_ret ?_)))
    exact L.ret hf (run_results1 results5 (ResIs.tmp hf rfl)) ⟨false, rfl, h, hs.nil⟩
   ·replace h := h.2 hc
    refine wp_skip (X.then_ (wp_seq (X.l (S.q hf hs (iv more) rfl fun a hf => S.q hf hs (iv tries) rfl fun a hf => S.q hf hs (.bool (decide (more < tries))) rfl fun a hf => X.n ?_))))
    refine C.cond hf (b := decide (more < tries)) rfl (fun hc => ?_) (fun hc => ?_)
    ·replace h := h.1 hc
     refine X.l (S.q hf hs (.bool true) rfl fun a hf => X.n (wp_ret (X.then_ret ?_)))
     exact L.ret hf (run_results1 results5 (ResIs.tmp hf rfl)) ⟨true, rfl, h, hs.nil⟩
    ·replace h := h.2 hc
     refine wp_skip (X.then_ (X.l (S.v hf hs (.agg #[iv g.W, iv g.H, iv g.Layers, .slice g_BlockedA g.Blocked.length g_BlockedC]) rfl (V.loadBox 2 rfl rfl rfl isAgg24 sizeOf24 rfl rfl) fun a hf => S.v hf hs (.agg #[iv c.Step, iv c.Via, iv c.Turn, iv c.Against]) rfl (V.loadBox 1 rfl rfl rfl isAgg26 sizeOf26 rfl rfl) fun a hf => S.q hf hs (.slice tA t.length tC) rfl fun a hf => S.q hf hs (iv more) rfl fun a hf => S.call hf rfl rfl rfl (call_fn (vs := [.agg #[iv g.W, iv g.H, iv g.Layers, .slice g_BlockedA g.Blocked.length g_BlockedC], .agg #[iv c.Step, iv c.Via, iv c.Turn, iv c.Against], .slice tA t.length tC, iv more]) rfl rfl rfl call14) (R_route_Route g c t more _ g_BlockedA g_BlockedC ((Ag.args _ _ _).view hv_g_Blocked hs) tA tC ((Ag.args _ _ _).view hv_t hs) _ h) (fun v a w' hf hr => ?_))))
     obtain ⟨y4, y4A, y4C, y4as, y5, rfl, h2, hs2⟩ := hr
     replace h := h2; replace hs := hs.call hs2; clear h2 hs2
     refine S.q hf hs (.tuple #[.slice y4A y4.length y4C, iv y5]) rfl fun a hf => S.q hf hs (.slice y4A y4.length y4C) rfl fun a hf => S.q hf hs (iv y5) rfl fun a hf => S.q hf hs (.slice y4A y4.length y4C) rfl fun a hf => S.q hf hs (iv y5) rfl fun a hf => X.n (X.l (S.q hf hs (iv y5) rfl fun a hf => S.q hf hs (.bool (y5 != 0)) rfl fun a hf => ?_))
     refine S.split hf hs (b := y5 != 0) rfl rfl rfl (V.pure rfl) (fun hc a hf => ?_) (fun hc a hf => ?_)
     ·replace h := h.1 hc
      refine S.k hf rfl fun a hf => S.k hf rfl fun a hf => S.k hf rfl fun a hf => S.k hf rfl fun a hf => S.k hf rfl fun a hf => S.q hf hs (.bool true) rfl fun a hf => S.q hf hs (.bool true) rfl fun a hf => X.n (wp_ret ?_)
      exact L.ret hf (run_results1 results5 (ResIs.tmp hf rfl)) ⟨true, rfl, h, hs.nil⟩
     ·replace h := h.2 hc
      refine S.q hf hs (.slice y4A y4.length y4C) rfl fun a hf => S.v hf hs (iv (y4.length : Int)) rfl (V.len rfl rfl runUnderlying28) fun a hf => S.q hf hs (.slice y1A y1.length y1C) rfl fun a hf => S.v hf hs (iv (y1.length : Int)) rfl (V.len rfl rfl runUnderlying28) fun a hf => S.q hf hs (.bool (decide ((y4.length : Int) ≥ (y1.length : Int)))) rfl fun a hf => S.q hf hs (.bool (decide ((y4.length : Int) ≥ (y1.length : Int)))) rfl fun a hf => S.q hf hs (.bool (decide ((y4.length : Int) ≥ (y1.length : Int)))) rfl fun a hf => X.n (wp_ret ?_)
      exact L.ret hf (run_results1 results5 (ResIs.tmp hf rfl)) ⟨(decide ((y4.length : Int) ≥ (y1.length : Int))), rfl, h, hs.nil⟩
  ·skip
   refine R.list (S.v hf hs (.agg #[iv g.W, iv g.H, iv g.Layers, .slice g_BlockedA g.Blocked.length g_BlockedC]) rfl (V.loadBox 2 rfl rfl rfl isAgg24 sizeOf24 rfl rfl) fun a hf => S.q hf hs (.slice tA t.length tC) rfl fun a hf => S.q hf hs (.slice y1A y1.length y1C) rfl fun a hf => S.call hf rfl rfl rfl (call_fn (vs := [.agg #[iv g.W, iv g.H, iv g.Layers, .slice g_BlockedA g.Blocked.length g_BlockedC], .slice tA t.length tC, .slice y1A y1.length y1C]) rfl rfl rfl call8) (R_route_CheckRouted g t y1 _ g_BlockedA g_BlockedC ((Ag.args _ _ _).view hv_g_Blocked hs) tA tC ((Ag.args _ _ _).view hv_t hs) y1A y1C (hs.rowsViewD 0 rfl) _ h) (fun v a w' hf hr => ?_))
   obtain ⟨y6, rfl, h2, hs2⟩ := hr
   replace h := h2; replace hs := hs.call hs2; clear h2 hs2
   refine S.q hf hs (.bool (y6 != 0)) rfl fun a hf => ?_
   refine S.split hf hs (b := y6 != 0) rfl rfl rfl (V.pure rfl) (fun hc a hf => ?_) (fun hc a hf => ?_)
   ·replace h := h.1 hc
    refine S.k hf rfl fun a hf => S.k hf rfl fun a hf => S.q hf hs (.bool true) rfl fun a hf => X.n ?_
    exact ⟨true, h, (((((((hf.nil.cons (hf.get 38 _ rfl)).cons (hf.get 11 _ rfl)).cons (hf.get 6 _ rfl)).cons (hf.get 5 _ rfl)).cons (hf.get 4 _ rfl)).cons (hf.get 3 _ rfl)).cons (hf.get 2 _ rfl)), hs⟩
   ·replace h := h.2 hc
    refine S.call hf rfl rfl rfl (call_fn (vs := []) rfl rfl rfl call13) (R_route_awake  _  _ h) (fun v a w' hf hr => ?_)
    obtain ⟨y7, rfl, h2, hs2⟩ := hr
    replace h := h2; replace hs := hs.call hs2; clear h2 hs2
    refine S.q hf hs (.bool (!y7)) rfl fun a hf => S.q hf hs (.bool (!y7)) rfl fun a hf => X.n ?_
    exact ⟨(!y7), h, (((((((hf.nil.cons (hf.get 38 _ rfl)).cons (hf.get 11 _ rfl)).cons (hf.get 6 _ rfl)).cons (hf.get 5 _ rfl)).cons (hf.get 4 _ rfl)).cons (hf.get 3 _ rfl)).cons (hf.get 2 _ rfl)), hs⟩
end Go.Proofs.YtihjaehkdgdenaaGreatDoor
namespace Go.Proofs.YtihjaehkdgdenaaGreatDoor
open Go Go.RowKit
set_option linter.unusedVariables false
set_option linter.unusedSectionVars false
set_option linter.unusedSimpArgs false
def idxL (t : List Task) (l : List Nat) : List Nat := (List.range t.length).filter (fun i => decide (i ∉ l))
theorem idxL_mem {t : List Task} {l : List Nat} {i : Nat} : i ∈ idxL t l ↔ i < t.length ∧ i ∉ l := by
  unfold idxL; rw [List.mem_filter, List.mem_range]; simp
theorem idxL_lt {t : List Task} {l : List Nat} : (idxL t l).Pairwise (· < ·) := by
  unfold idxL
  exact List.pairwise_lt_range.filter _
theorem resL_get {t : List Task} {b : List (List (List Cell))} (hb : b.length = t.length) {l : List Nat} {k : Nat} {x : Routed} (hx : (resL t b l)[k]? = some x) : ∃ (i : Nat) (u : Task) (W : List (List Cell)), (idxL t l)[k]? = some i ∧ i ∉ l ∧ t[i]? = some u ∧ b[i]? = some W ∧ x = ⟨u.Net, W⟩ := by
  have hx' : ((idxL t l).map (fun i => (⟨(t.getD i ⟨[], []⟩).Net, b.getD i []⟩ : Routed)))[k]? = some x := hx
  rw [List.getElem?_map] at hx'
  cases hi : (idxL t l)[k]? with
  | none => rw [hi] at hx'; cases hx'
  | some i =>
    rw [hi] at hx'; injection hx' with hx'
    obtain ⟨h1, h2⟩ := idxL_mem.1 (List.mem_of_getElem? hi)
    have hu := List.getElem?_eq_getElem h1
    have hW := List.getElem?_eq_getElem (show i < b.length by omega)
    refine ⟨i, _, _, rfl, h2, hu, hW, ?_⟩
    rw [← hx']
    have e1 : t.getD i ⟨[], []⟩ = t[i] := by rw [List.getD_eq_getElem?_getD, hu]; rfl
    have e2 : b.getD i [] = b[i]'(by omega) := by rw [List.getD_eq_getElem?_getD, hW]; rfl
    show (⟨(t.getD i ⟨[], []⟩).Net, b.getD i []⟩ : Routed) = _
    rw [e1, e2]
theorem strLt_not {a b : Str} (h : strLt a b = true) : (strLt b a || b == a) = false := by
  rw [Bool.or_eq_false_iff]
  constructor
  · cases e : strLt b a
    · rfl
    · have := strLt_trans a b a h e; rw [strLt_irrefl] at this; cases this
  · rw [beq_eq_false_iff_ne]; intro e; rw [e, strLt_irrefl] at h; cases h
theorem result_right {g : Grid} {c : Costs} {t : List Task} (et : tasksF g t = 0) (hgf : gridF g = 0) (hc : COk c) {b : List (List (List Cell))} {l : List Nat} (hr : Ran g c t b l) : routedF g t (resL t b l) = 0 := by
  have ok := tasks_ok et
  obtain ⟨row, U, hf, hR⟩ := hr
  have f := hR.fact hgf hc ok hf.nodup
  have htl := ok.len
  have hlen : (resL t b l).length ≤ t.length := by
    unfold resL
    rw [List.length_map]
    have := List.length_filter_le (fun i => decide (i ∉ l)) (List.range t.length)
    rw [List.length_range] at this; exact this
  unfold routedF
  rw [if_neg (by simp [et]), if_neg (by omega)]
  refine firstBad_none _ 0 fun k x hx => ?_
  rw [Nat.zero_add]
  obtain ⟨i, u, W, hi, hil, hu, hW, rfl⟩ := resL_get f.len hx
  have hin : i ∈ row := (hf.all i).2 (lt_of_get hu)
  obtain ⟨W', w1, w2, w3, w4, w5⟩ := f.good i u hin hil hu
  rw [hW] at w1; injection w1 with w1; subst w1
  have htask : taskF t u.Net = some u := find_some (key := Task.Net) ok.rise hu rfl
  have hcells : rCells t ⟨u.Net, W⟩ = u.Pins ++ W.flatten := rCells_some (x := ⟨u.Net, W⟩) htask
  unfold routedBad
  have htask' : taskF t (⟨u.Net, W⟩ : Routed).Net = some u := htask
  rw [htask']
  simp only
  have hunder : under Routed.Net (resL t b l) k ⟨u.Net, W⟩ = false := by
    unfold under
    cases hk : decide (0 < k) with
    | false => rfl
    | true =>
      have hk' : 0 < k := of_decide_eq_true hk
      rw [Bool.true_and]
      have hkl := lt_of_get hx
      have hp := List.getElem?_eq_getElem (show k - 1 < (resL t b l).length by omega)
      obtain ⟨i2, u2, W2, hi2, _, hu2, _, e2⟩ := resL_get f.len hp
      have e3 : (resL t b l).getD (k - 1) default = ⟨u2.Net, W2⟩ := by rw [List.getD_eq_getElem?_getD, hp, e2]; rfl
      rw [e3]
      have hlt : i2 < i := by
        have h1 := lt_of_get hi
        have := List.pairwise_iff_getElem.1 (idxL_lt (t := t) (l := l)) (k - 1) k (by omega) h1 (by omega)
        have a1 : (idxL t l)[k] = i := by have := List.getElem?_eq_getElem h1; rw [hi] at this; injection this with this; exact this.symm
        have a2 : (idxL t l)[k - 1]'(by omega) = i2 := by have := List.getElem?_eq_getElem (show k - 1 < (idxL t l).length by omega); rw [hi2] at this; injection this with this; exact this.symm
        rw [a1, a2] at this; exact this
      exact strLt_not (rising_mono ok.rise hu2 hu hlt)
  rw [if_neg (by rw [hunder]; decide), if_neg (by show ¬ W.length > 50; omega)]
  have hways : waysF g W = 0 := firstBad_none _ 0 fun j w hw => w2 w (List.mem_of_getElem? hw)
  have hways' : waysF g (⟨u.Net, W⟩ : Routed).Ways = 0 := hways
  rw [if_neg (by rw [hways']; decide)]
  have hclash : clashB t (resL t b l) k ⟨u.Net, W⟩ = false := by
    unfold clashB
    rw [hcells, List.any_eq_false]
    intro c hc hbad
    rw [Bool.or_eq_true] at hbad
    rcases hbad with hb | hb
    · obtain ⟨z, hz, hcz⟩ := List.any_eq_true.1 hb
      have hcz := of_decide_eq_true hcz
      obtain ⟨m, hm⟩ := List.getElem?_of_mem hz
      have hmk : m < k := by have := lt_of_get hm; rw [List.length_take] at this; omega
      rw [List.getElem?_take, if_pos hmk] at hm
      obtain ⟨j, v, V, hj, hjl, hv, hV, rfl⟩ := resL_get f.len hm
      have hne : j ≠ i := by
        have h1 := lt_of_get hi
        have h2 := lt_of_get hj
        have := List.pairwise_iff_getElem.1 (idxL_lt (t := t) (l := l)) m k h2 h1 hmk
        have a1 : (idxL t l)[k] = i := by have := List.getElem?_eq_getElem h1; rw [hi] at this; injection this with this; exact this.symm
        have a2 : (idxL t l)[m] = j := by have := List.getElem?_eq_getElem h2; rw [hj] at this; injection this with this; exact this.symm
        rw [a1, a2] at this; omega
      have hjn : j ∈ row := (hf.all j).2 (lt_of_get hv)
      obtain ⟨V', v1, _, _, _, v5⟩ := f.good j v hjn hjl hv
      rw [hV] at v1; injection v1 with v1; subst v1
      have htv : taskF t v.Net = some v := find_some (key := Task.Net) ok.rise hv rfl
      rw [rCells_some (x := ⟨v.Net, V⟩) htv] at hcz
      rcases List.mem_append.1 hc with h1 | h1 <;> rcases List.mem_append.1 hcz with h2 | h2
      · exact hne (ok.apart _ _ _ _ _ hv hu h2 h1)
      · exact (v5 c h2).2 i u (Ne.symm hne) hu h1
      · exact (w5 c h1).2 j v hne hv h2
      · exact f.apart i j W V hin hjn hil hjl (Ne.symm hne) hW hV c h1 h2
    · obtain ⟨v, hv, h3⟩ := List.any_eq_true.1 hb
      rw [Bool.and_eq_true] at h3
      have hne : v.Net ≠ u.Net := by have := h3.1; simpa using this
      have hcv := of_decide_eq_true h3.2
      obtain ⟨j, hj⟩ := List.getElem?_of_mem hv
      have hji : j ≠ i := fun e => by subst e; rw [hu] at hj; injection hj with hj; exact hne (by rw [hj])
      rcases List.mem_append.1 hc with h1 | h1
      · exact hji (ok.apart _ _ _ _ _ hj hu hcv h1)
      · exact (w5 c h1).2 j v hji hj hcv
  rw [if_neg (by rw [hclash]; decide), if_pos (togB_true.2 w4)]
theorem nodup_le : ∀ {l m : List Nat}, l.Nodup → (∀ x ∈ l, x ∈ m) → l.length ≤ m.length
  | [], _, _, _ => Nat.zero_le _
  | x :: r, m, h, hs => by
    rw [List.nodup_cons] at h
    have hx := hs x (List.mem_cons_self ..)
    have h1 := nodup_le (m := m.erase x) h.2 (fun y hy => (List.mem_erase_of_ne (fun e => h.1 (by rw [← e]; exact hy))).2 (hs y (List.mem_cons_of_mem _ hy)))
    have h2 := List.length_erase_of_mem hx
    have h3 := List.length_pos_of_mem hx
    rw [List.length_cons]; omega
theorem result_len {t : List Task} {b : List (List (List Cell))} {l : List Nat} (hn : l.Nodup) (hl : ∀ i ∈ l, i < t.length) : (resL t b l).length + l.length = t.length := by
  have e : (resL t b l).length = (idxL t l).length := by unfold resL idxL; rw [List.length_map]
  rw [e]
  have hidx : (idxL t l).Nodup := idxL_lt.imp (fun h => Nat.ne_of_lt h)
  have h1 : (idxL t l ++ l).length ≤ (List.range t.length).length := nodup_le (by
    rw [List.nodup_append]
    exact ⟨hidx, hn, fun a ha c hc => fun e => (idxL_mem.1 ha).2 (e ▸ hc)⟩) (fun x hx => by
    rw [List.mem_range]
    rcases List.mem_append.1 hx with h | h
    · exact (idxL_mem.1 h).1
    · exact hl x h)
  have h2 : (List.range t.length).length ≤ (idxL t l ++ l).length := nodup_le List.nodup_range (fun x hx => by
    by_cases hxl : x ∈ l
    · exact List.mem_append_right _ hxl
    · exact List.mem_append_left _ (idxL_mem.2 ⟨List.mem_range.1 hx, hxl⟩))
  rw [List.length_append, List.length_range] at h1 h2
  omega
theorem law_RoutesRight_true (g : Grid) (c : Costs) (t : List Task) (tries more : Int) : M_law_RoutesRight g c t tries more (· = true) := by
  unfold M_law_RoutesRight
  refine S_route_Route (fun e => ?_) (fun e b l hL hr => ?_)
  · exact cnd_of (fun _ => cnd_of (fun _ => S_awake rfl) (fun e' => by simp at e')) (fun e' => absurd (by simpa using e') e)
  · obtain ⟨eb, et, ht1, ht2⟩ := routeF_zero e
    obtain ⟨hg, hc⟩ := bothF_zero eb
    have hgf := bothF_grid eb
    have ok := tasks_ok et
    refine cnd_of (fun e' => by simp at e') (fun _ => S_route_CheckRouted ?_)
    rw [result_right et hgf hc hr]
    refine cnd_of (fun e' => by simp at e') (fun _ => S_awake ?_)
    unfold M_law_RoutesRight_k1
    refine cnd_of (fun e' => by cases e') (fun _ => cnd_of (fun _ => rfl) (fun em => ?_))
    have hm : tries ≤ more := by have := of_decide_eq_false em; omega
    refine S_route_Route (fun e2 => cnd_of (fun _ => rfl) (fun e3 => absurd (by simpa using e3) e2)) (fun e2 b2 l2 hL2 hr2 => ?_)
    refine cnd_of (fun e' => by simp at e') (fun _ => ?_)
    have hle := hL.more ht1 hm (by omega) hL2
    have len : ∀ {b l}, Ran g c t b l → (resL t b l).length + l.length = t.length := fun {b l} ⟨row, U, hf, hR⟩ => by
      have f := hR.fact hgf hc ok hf.nodup
      exact result_len f.fnd (fun i hi => (hf.all i).1 (f.fsub i hi))
    have h1 := len hr
    have h2 := len hr2
    exact decide_eq_true (by omega)
end Go.Proofs.YtihjaehkdgdenaaGreatDoor
