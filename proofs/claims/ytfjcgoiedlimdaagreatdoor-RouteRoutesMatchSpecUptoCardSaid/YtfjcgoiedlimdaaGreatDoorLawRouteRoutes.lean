/- Chapter texts of ours, as far as the claim needs them. -/
import Derived.Test.YtfjcgoiedlimdaaGreatDoorCards
import Derived.Test.YtfjcgoiedlimdaaGreatDoorTie
import Derived.Test.YtfjcgoiedlimdaaGreatDoorBulk
import Derived.Test.YtfjcgoiedlimdaaGreatDoorRzJ
import Derived.Deep.DeepHandedRow
import Derived.Deep.DeepWitnessRowRef
import Derived.Lib.LaidTab
import Derived.Lay
namespace Go.Proofs.YtfjcgoiedlimdaaGreatDoor
open Go Go.RowKit Go.ChangeShapes Go.WideShapes Go.ChangeAt
set_option linter.unusedVariables false
set_option linter.unusedSectionVars false
set_option linter.unusedSimpArgs false
theorem Nu : JD Tryz.prog 63 Cell := fun {H enc w base spare held fuel cs x} h => by
  obtain ⟨xs, m, _, hx, hlen, hxl, hg⟩ := DataW.trod_struct Tryz.underlying63 h
  have hc : Tryz.prog.cellsOf 63 = 3 := by kernel_rfl
  have hxs : xs.length = 3 := hxl
  rw [hc] at hlen
  rcases xs with _ | ⟨x0, xs⟩
  · simp at hxs
  rcases xs with _ | ⟨x1, xs⟩
  · simp at hxs
  rcases xs with _ | ⟨x2, xs⟩
  · simp at hxs
  rcases xs with _ | ⟨_, _⟩
  rotate_left
  · simp at hxs
  have hc0 : Tryz.prog.cellsOf 3 = 1 := by kernel_rfl
  obtain ⟨y0, h0, f0, b0⟩ := (um Tryz.underlying3) (hg 0 _ rfl)
  have e0 : (cs.drop 0).take (Tryz.prog.cellsOf 3) = Flat.enc y0 := h0
  rw [hc0] at e0
  have hc1 : Tryz.prog.cellsOf 3 = 1 := by kernel_rfl
  obtain ⟨y1, h1, f1, b1⟩ := (um Tryz.underlying3) (hg 1 _ rfl)
  have e1 : (cs.drop 1).take (Tryz.prog.cellsOf 3) = Flat.enc y1 := h1
  rw [hc1] at e1
  have hc2 : Tryz.prog.cellsOf 3 = 1 := by kernel_rfl
  obtain ⟨y2, h2, f2, b2⟩ := (um Tryz.underlying3) (hg 2 _ rfl)
  have e2 : (cs.drop 2).take (Tryz.prog.cellsOf 3) = Flat.enc y2 := h2
  rw [hc2] at e2
  have hall := (sV (sV e0 e1) e2)
  rw [List.drop_zero, List.take_of_length_le (Nat.le_of_eq hlen)] at hall
  have hbk : Bulk.bk y0 + (Bulk.bk y1 + (Bulk.bk y2 + 1)) ≤ Rows.uptoBulk x.1 := by
    rw [hx]; simp only [Rows.uptoBulk, Rows.uptoBulkAll, List.map_cons, List.map_nil]; omega
  exact ⟨⟨y0, y1, y2⟩, hall, ⟨f0, f1, f2⟩, hbk⟩
theorem PW : JD Tryz.prog 24 Grid := fun {H enc w base spare held fuel cs x} h => by
  obtain ⟨xs, m, _, hx, hlen, hxl, hg⟩ := DataW.trod_struct Tryz.underlying24 h
  have hc : Tryz.prog.cellsOf 24 = 4 := by kernel_rfl
  have hxs : xs.length = 4 := hxl
  rw [hc] at hlen
  rcases xs with _ | ⟨x0, xs⟩
  · simp at hxs
  rcases xs with _ | ⟨x1, xs⟩
  · simp at hxs
  rcases xs with _ | ⟨x2, xs⟩
  · simp at hxs
  rcases xs with _ | ⟨x3, xs⟩
  · simp at hxs
  rcases xs with _ | ⟨_, _⟩
  rotate_left
  · simp at hxs
  have hc0 : Tryz.prog.cellsOf 3 = 1 := by kernel_rfl
  obtain ⟨y0, h0, f0, b0⟩ := (um Tryz.underlying3) (hg 0 _ rfl)
  have e0 : (cs.drop 0).take (Tryz.prog.cellsOf 3) = Flat.enc y0 := h0
  rw [hc0] at e0
  have hc1 : Tryz.prog.cellsOf 3 = 1 := by kernel_rfl
  obtain ⟨y1, h1, f1, b1⟩ := (um Tryz.underlying3) (hg 1 _ rfl)
  have e1 : (cs.drop 1).take (Tryz.prog.cellsOf 3) = Flat.enc y1 := h1
  rw [hc1] at e1
  have hc2 : Tryz.prog.cellsOf 3 = 1 := by kernel_rfl
  obtain ⟨y2, h2, f2, b2⟩ := (um Tryz.underlying3) (hg 2 _ rfl)
  have e2 : (cs.drop 2).take (Tryz.prog.cellsOf 3) = Flat.enc y2 := h2
  rw [hc2] at e2
  have hc3 : Tryz.prog.cellsOf 22 = 1 := by kernel_rfl
  obtain ⟨y3, h3, f3, b3⟩ := (BU Tryz.underlying22 (by kernel_rfl) Nu) (hg 3 _ rfl)
  obtain ⟨A3, C3, e3, v3⟩ := h3
  replace e3 : (cs.drop 3).take (Tryz.prog.cellsOf 22) = [.slice A3 y3.length C3] := e3
  rw [hc3] at e3
  have hall := (sV (sV (sV e0 e1) e2) e3)
  rw [List.drop_zero, List.take_of_length_le (Nat.le_of_eq hlen)] at hall
  have hbk : Bulk.bk y0 + (Bulk.bk y1 + (Bulk.bk y2 + (Bulk.bk y3 + 1))) ≤ Rows.uptoBulk x.1 := by
    rw [hx]; simp only [Rows.uptoBulk, Rows.uptoBulkAll, List.map_cons, List.map_nil]; omega
  exact ⟨⟨y0, y1, y2, y3⟩, ⟨A3, C3, hall, v3⟩, ⟨f0, f1, f2, f3⟩, hbk⟩
theorem Qp : JD Tryz.prog 26 gy := fun {H enc w base spare held fuel cs x} h => by
  obtain ⟨xs, m, _, hx, hlen, hxl, hg⟩ := DataW.trod_struct Tryz.underlying26 h
  have hc : Tryz.prog.cellsOf 26 = 4 := by kernel_rfl
  have hxs : xs.length = 4 := hxl
  rw [hc] at hlen
  rcases xs with _ | ⟨x0, xs⟩
  · simp at hxs
  rcases xs with _ | ⟨x1, xs⟩
  · simp at hxs
  rcases xs with _ | ⟨x2, xs⟩
  · simp at hxs
  rcases xs with _ | ⟨x3, xs⟩
  · simp at hxs
  rcases xs with _ | ⟨_, _⟩
  rotate_left
  · simp at hxs
  have hc0 : Tryz.prog.cellsOf 3 = 1 := by kernel_rfl
  obtain ⟨y0, h0, f0, b0⟩ := (um Tryz.underlying3) (hg 0 _ rfl)
  have e0 : (cs.drop 0).take (Tryz.prog.cellsOf 3) = Flat.enc y0 := h0
  rw [hc0] at e0
  have hc1 : Tryz.prog.cellsOf 3 = 1 := by kernel_rfl
  obtain ⟨y1, h1, f1, b1⟩ := (um Tryz.underlying3) (hg 1 _ rfl)
  have e1 : (cs.drop 1).take (Tryz.prog.cellsOf 3) = Flat.enc y1 := h1
  rw [hc1] at e1
  have hc2 : Tryz.prog.cellsOf 3 = 1 := by kernel_rfl
  obtain ⟨y2, h2, f2, b2⟩ := (um Tryz.underlying3) (hg 2 _ rfl)
  have e2 : (cs.drop 2).take (Tryz.prog.cellsOf 3) = Flat.enc y2 := h2
  rw [hc2] at e2
  have hc3 : Tryz.prog.cellsOf 3 = 1 := by kernel_rfl
  obtain ⟨y3, h3, f3, b3⟩ := (um Tryz.underlying3) (hg 3 _ rfl)
  have e3 : (cs.drop 3).take (Tryz.prog.cellsOf 3) = Flat.enc y3 := h3
  rw [hc3] at e3
  have hall := (sV (sV (sV e0 e1) e2) e3)
  rw [List.drop_zero, List.take_of_length_le (Nat.le_of_eq hlen)] at hall
  have hbk : Bulk.bk y0 + (Bulk.bk y1 + (Bulk.bk y2 + (Bulk.bk y3 + 1))) ≤ Rows.uptoBulk x.1 := by
    rw [hx]; simp only [Rows.uptoBulk, Rows.uptoBulkAll, List.map_cons, List.map_nil]; omega
  exact ⟨⟨y0, y1, y2, y3⟩, hall, ⟨f0, f1, f2, f3⟩, hbk⟩
theorem P9 : JD Tryz.prog 46 Task := fun {H enc w base spare held fuel cs x} h => by
  obtain ⟨xs, m, _, hx, hlen, hxl, hg⟩ := DataW.trod_struct Tryz.underlying46 h
  have hc : Tryz.prog.cellsOf 46 = 2 := by kernel_rfl
  have hxs : xs.length = 2 := hxl
  rw [hc] at hlen
  rcases xs with _ | ⟨x0, xs⟩
  · simp at hxs
  rcases xs with _ | ⟨x1, xs⟩
  · simp at hxs
  rcases xs with _ | ⟨_, _⟩
  rotate_left
  · simp at hxs
  have hc0 : Tryz.prog.cellsOf 9 = 1 := by kernel_rfl
  obtain ⟨y0, h0, f0, b0⟩ := (NY Tryz.underlying9) (hg 0 _ rfl)
  have e0 : (cs.drop 0).take (Tryz.prog.cellsOf 9) = Flat.enc y0 := h0
  rw [hc0] at e0
  have hc1 : Tryz.prog.cellsOf 22 = 1 := by kernel_rfl
  obtain ⟨y1, h1, f1, b1⟩ := (BU Tryz.underlying22 (by kernel_rfl) Nu) (hg 1 _ rfl)
  obtain ⟨A1, C1, e1, v1⟩ := h1
  replace e1 : (cs.drop 1).take (Tryz.prog.cellsOf 22) = [.slice A1 y1.length C1] := e1
  rw [hc1] at e1
  have hall := (sV e0 e1)
  rw [List.drop_zero, List.take_of_length_le (Nat.le_of_eq hlen)] at hall
  have hbk : Bulk.bk y0 + (Bulk.bk y1 + 1) ≤ Rows.uptoBulk x.1 := by
    rw [hx]; simp only [Rows.uptoBulk, Rows.uptoBulkAll, List.map_cons, List.map_nil]; omega
  exact ⟨⟨y0, y1⟩, ⟨A1, C1, hall, v1⟩, ⟨f0, f1⟩, hbk⟩
theorem FW : ownKnob Tryz.prog.godebug = none := by kernel_rfl
theorem FK (os : Os) : laidMet Tryz.prog Rows.routeRoutesMatchSpecUptoRow.laid ((World.laidAll Tryz.prog os Rows.routeRoutesMatchSpecUptoRow.laid).forCall (fun _ _ => 0) ⟨#[], #[.agg #[.int .i64 0, .int .i64 0, .int .i64 0, .slice none 0 0], .agg #[.int .i64 0, .int .i64 0, .int .i64 0, .int .i64 0], .slice none 0 0, .int .i64 0], []⟩).memory := laidMet_laidAll _ (by kernel_rfl) (by kernel_rfl)
theorem D8 (os : Os) {H : Type} (enc : TypeId × Value → H) : ∃ places, DataW.whole enc Tryz.prog ((World.laidAll Tryz.prog os Rows.routeRoutesMatchSpecUptoRow.laid).forCall (fun _ _ => 0) ⟨#[], #[.agg #[.int .i64 0, .int .i64 0, .int .i64 0, .slice none 0 0], .agg #[.int .i64 0, .int .i64 0, .int .i64 0, .int .i64 0], .slice none 0 0, .int .i64 0], []⟩).memory Tryz.f3.params.toList Rows.routeRoutesMatchSpecSpec.vars false ((#[.agg #[.int .i64 0, .int .i64 0, .int .i64 0, .slice none 0 0], .agg #[.int .i64 0, .int .i64 0, .int .i64 0, .int .i64 0], .slice none 0 0, .int .i64 0] : Array Value).toList) 8 = some ([.agg [.lit (.int .i64 0), .lit (.int .i64 0), .lit (.int .i64 0), .nil], .agg [.lit (.int .i64 0), .lit (.int .i64 0), .lit (.int .i64 0), .lit (.int .i64 0)], .nil, .lit (.int .i64 0)], [], places) :=
  ⟨[], by kernel_rfl⟩
set_option maxRecDepth 100000 in
set_option maxHeartbeats 1000000 in
theorem Dy (os : Os) (started : os.Started) (H : Type) (enc : TypeId × Value → H) (F : Stop.Interp) :
    ReturnsInHanded {} Tryz.checked os 3 .any ((Rows.OpenSpec.upto Rows.routeRoutesMatchSpecSpec).preRow enc Tryz.prog Tryz.f3 Rows.routeRoutesMatchSpecUptoRow.domain false Rows.routeRoutesMatchSpecUptoRow.laid) (((Rows.OpenSpec.upto Rows.routeRoutesMatchSpecSpec).at F).post enc Tryz.prog Tryz.f3 false true false false) := by
  obtain ⟨places, hx⟩ := D8 os enc
  refine returnsInHanded_of_row (C := Tryz.checked) (s := (Rows.OpenSpec.upto Rows.routeRoutesMatchSpecSpec)) FW started (by kernel_rfl) Tryz.func3
    (witness_row_atRef (enc := enc) (C := Tryz.checked) false (World.laidAll Tryz.prog os Rows.routeRoutesMatchSpecUptoRow.laid) #[.agg #[.int .i64 0, .int .i64 0, .int .i64 0, .slice none 0 0], .agg #[.int .i64 0, .int .i64 0, .int .i64 0, .int .i64 0], .slice none 0 0, .int .i64 0] (World.laidAll_os _ _ _) (by kernel_rfl) (by kernel_rfl) (by kernel_rfl)
      (OpenSpec.preRow_of_cond 8 hx (by kernel_rfl) (fun k hk => by cases hk; kernel_rfl) (by kernel_rfl) (FK os))) ?_
  intro W base args ds gs before hval0 hW hcnd0 hcond hreach0 _ _ _
  clear hcnd0
  have hval : ∀ (j : Nat) t v, Tryz.f3.params[j]? = some t → args[j]? = some v → Value.okWide Tryz.prog W .any base t v := hval0
  have hW' := hW
  obtain ⟨p, q, hA0, hV, hpq, hfz, hnd⟩ := hW
  have hA : DataW.TrodAll enc Tryz.prog W 0 (fun _ => true) true Tryz.f3.params.toList args.toList ds p := hA0
  have hA1 := hA
  rw [Tryz.params3] at hA hval
  obtain ⟨v0, vs0, d0, ds0, p0, q0, hargs, rfl, hp0, h0, r0⟩ := trodAll_cons hA
  obtain ⟨v1, vs1, d1, ds1, p1, q1, rfl, rfl, hp1, h1, r1⟩ := trodAll_cons r0
  obtain ⟨v2, vs2, d2, ds2, p2, q2, rfl, rfl, hp2, h2, r2⟩ := trodAll_cons r1
  obtain ⟨v3, vs3, d3, ds3, p3, q3, rfl, rfl, hp3, h3, r3⟩ := trodAll_cons r2
  obtain ⟨rfl, rfl, hq4⟩ := trodAll_nil r3
  obtain rfl : args = #[v0, v1, v2, v3] := by cases args; simp_all
  obtain ⟨rfl, rfl⟩ := trodVars_none hV
  have hbk : Rows.uptoBulkAll ([d0, d1, d2, d3] ++ []) ≤ 1048576 := of_decide_eq_true (hcond _ rfl)
  simp only [List.append_nil, Rows.uptoBulkAll] at hbk
  obtain ⟨cs0, rfl, hsz0⟩ := okWide_struct Tryz.underlying24 (hval 0 24 v0 rfl rfl)
  obtain ⟨fuel0, hf0⟩ := h0
  obtain ⟨y0, ⟨A0_0, C0_0, e0, hv0_0⟩, f0, b0⟩ := PW hf0
  obtain rfl := (Array.ext' e0 : cs0 = List.toArray _)
  obtain ⟨cs1, rfl, hsz1⟩ := okWide_struct Tryz.underlying26 (hval 1 26 v1 rfl rfl)
  obtain ⟨fuel1, hf1⟩ := h1
  obtain ⟨y1, e1, f1, b1⟩ := Qp hf1
  obtain rfl : cs1 = (Flat.enc y1).toArray := Array.ext' e1
  obtain ⟨a2, l2, c2, rfl⟩ := okWide_slice Tryz.underlying27 (hval 2 27 v2 rfl rfl)
  obtain ⟨fuel2, hf2⟩ := h2
  obtain ⟨y2, ⟨A2, C2, e2, hv2⟩, f2, b2⟩ := (BU Tryz.underlying27 (by kernel_rfl) P9) hf2
  obtain rfl : l2 = y2.length := by have := congrArg (fun l => l[0]?) e2; simp [Value.cells] at this; exact this.2.1
  obtain ⟨rfl, rfl⟩ : a2 = A2 ∧ c2 = C2 := by have := congrArg (fun l => l[0]?) e2; simp [Value.cells] at this; exact this
  obtain ⟨y3, rfl, _, _, w3⟩ := open_int Tryz.underlying3 (hval 3 3 v3 rfl rfl) h3
  have k2 : Bulk.bk y2 ≤ 1048576 := by have hb := b2; dsimp only at hb; omega
  refine Calls.mono (Iq y0 y1 y2 y3 W _ _ (hv0_0.mono (fun b hb => ⟨⟨hb, fun e => e⟩, rfl⟩)) _ _ (hv2.mono (fun b hb => ⟨⟨hb, fun e => e⟩, rfl⟩)) _ (Fe y0 y1 y2 y3 k2)) ?_
  rintro e W' ⟨v, rfl, r, rfl, hr, hs⟩
  subst hr
  exact ⟨_, rfl, NI (s := Rows.routeRoutesMatchSpecSpec) (tb := 4) (by kernel_rfl) (by rw [Tryz.params3]; intro t ht; simp only [List.mem_cons, List.not_mem_nil, or_false] at ht; rcases ht with rfl | rfl | rfl | rfl <;> exact ⟨by kernel_rfl, by decide⟩) hW' hA1 (by rw [hpq, List.append_nil]) rfl rfl rfl rfl rfl (by kernel_rfl) Tryz.underlying4 hs⟩
theorem EZ : Rows.RouteRoutesMatchSpecUptoSaid :=
  OpenClaim.holds_of_cond 3 Tryz.f3 rfl rfl rfl rfl rfl rfl rfl ⟨rfl, rfl, rfl, rfl, rfl⟩ rfl rfl rfl rfl rfl (by kernel_rfl) Tryz.func3 (by kernel_rfl)
    (of_decide_eq_true (by kernel_rfl)) (by unfold Func.isWrapper; first | (rw [if_pos (by decide +kernel)]; kernel_rfl) | (rw [if_neg (by decide +kernel)]; exact ⟨rfl, rfl⟩))
    (fun os started H enc _ F => by rw [OpenClaim.pre_eq_preRow]; exact Dy os started H enc F)
theorem Ej (f : FuncId) (fn : Func) (hf : Tryz.pinned.checked.prog.funcNamed "etchhouse/etchhouselaw7.RouteRoutesMatchSpec" = some f) (hfn : Tryz.pinned.checked.prog.funcs[f]? = some fn) :
    true = Tryz.pinned.checked.prog.looks [] ∧ ∀ (j : Nat) t, fn.params[j]? = some t → Tryz.pinned.checked.prog.wantsStandIn t = false := by
  obtain rfl : f = 3 := Option.some.inj ((show Tryz.prog.funcNamed "etchhouse/etchhouselaw7.RouteRoutesMatchSpec" = some 3 by kernel_rfl).symm.trans hf) |>.symm
  obtain rfl : fn = Tryz.f3 := (Option.some.inj (Tryz.func3.symm.trans hfn)).symm
  refine ⟨by kernel_rfl, fun j t ht => ?_⟩
  rw [Tryz.params3] at ht
  have hm := Array.mem_of_getElem? ht
  simp only [List.mem_toArray, List.mem_cons, List.not_mem_nil, or_false] at hm
  rcases hm with rfl | rfl | rfl | rfl
  · exact (show Tryz.prog.wantsStandIn 24 = false by kernel_rfl)
  · exact (show Tryz.prog.wantsStandIn 26 = false by kernel_rfl)
  · exact (show Tryz.prog.wantsStandIn 27 = false by kernel_rfl)
  · exact (show Tryz.prog.wantsStandIn 3 = false by kernel_rfl)
theorem proved_law_Routes : Rows.RouteRoutesMatchSpecUptoCardSaid :=
  Claim7.holds_tied_plain_at .later [] _ _ _ _ EZ (fun _ h => by cases h) (by kernel_rfl) (fun _ h => by cases h) routeRoutesMatchSpecUpto_row_tie rfl ⟨rfl, rfl⟩ (by kernel_rfl) rfl Ej (by kernel_rfl)
end Go.Proofs.YtfjcgoiedlimdaaGreatDoor
