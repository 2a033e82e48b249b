/- Chapter texts of ours, as far as the claim needs them. -/
import Derived.Test.YtcmlcgjjkccaeaaDoorCards
import Derived.Test.YtcmlcgjjkccaeaaDoorTie
import Derived.Test.YtcmlcgjjkccaeaaDoorBulk
import Derived.Test.YtcmlcgjjkccaeaaDoorDoorV
import Derived.Deep.DeepHandedRow
import Derived.Deep.DeepWitnessRowRef
import Derived.Lib.LaidTab
import Derived.Lay
namespace Go.Proofs.YtcmlcgjjkccaeaaDoor
open Go Go.RowKit Go.ChangeShapes Go.WideShapes Go.ChangeAt
set_option linter.unusedVariables false
set_option linter.unusedSimpArgs false
theorem datB95 : DatB Tryd.prog 95 Body := fun {H enc w base spare held fuel cs x} h => by
  obtain ⟨xs, m, _, hx, hlen, hxl, hg⟩ := DataW.trod_struct Tryd.underlying95 h
  have hc : Tryd.prog.cellsOf 95 = 5 := by kernel_rfl
  have hxs : xs.length = 5 := hxl
  rw [hc] at hlen
  rcases xs with _ | ⟨x0, xs⟩
  · simp at hxs
  rcases xs with _ | ⟨x1, xs⟩
  · simp at hxs
  rcases xs with _ | ⟨x2, xs⟩
  · simp at hxs
  rcases xs with _ | ⟨x3, xs⟩
  · simp at hxs
  rcases xs with _ | ⟨x4, xs⟩
  · simp at hxs
  rcases xs with _ | ⟨_, _⟩
  rotate_left
  · simp at hxs
  have hc0 : Tryd.prog.cellsOf 9 = 1 := by kernel_rfl
  obtain ⟨y0, h0, f0, b0⟩ := (datB_str Tryd.underlying9) (hg 0 _ rfl)
  have e0 : (cs.drop 0).take (Tryd.prog.cellsOf 9) = Flat.enc y0 := h0
  rw [hc0] at e0
  have hc1 : Tryd.prog.cellsOf 3 = 1 := by kernel_rfl
  obtain ⟨y1, h1, f1, b1⟩ := (datB_int Tryd.underlying3) (hg 1 _ rfl)
  have e1 : (cs.drop 1).take (Tryd.prog.cellsOf 3) = Flat.enc y1 := h1
  rw [hc1] at e1
  have hc2 : Tryd.prog.cellsOf 3 = 1 := by kernel_rfl
  obtain ⟨y2, h2, f2, b2⟩ := (datB_int Tryd.underlying3) (hg 2 _ rfl)
  have e2 : (cs.drop 2).take (Tryd.prog.cellsOf 3) = Flat.enc y2 := h2
  rw [hc2] at e2
  have hc3 : Tryd.prog.cellsOf 3 = 1 := by kernel_rfl
  obtain ⟨y3, h3, f3, b3⟩ := (datB_int Tryd.underlying3) (hg 3 _ rfl)
  have e3 : (cs.drop 3).take (Tryd.prog.cellsOf 3) = Flat.enc y3 := h3
  rw [hc3] at e3
  have hc4 : Tryd.prog.cellsOf 9 = 1 := by kernel_rfl
  obtain ⟨y4, h4, f4, b4⟩ := (datB_str Tryd.underlying9) (hg 4 _ rfl)
  have e4 : (cs.drop 4).take (Tryd.prog.cellsOf 9) = Flat.enc y4 := h4
  rw [hc4] at e4
  have hall := (slice_cat (slice_cat (slice_cat (slice_cat e0 e1) e2) e3) e4)
  rw [List.drop_zero, List.take_of_length_le (Nat.le_of_eq hlen)] at hall
  have hbk : Bulk.bk y0 + (Bulk.bk y1 + (Bulk.bk y2 + (Bulk.bk y3 + (Bulk.bk y4 + 1)))) ≤ Rows.uptoBulk x.1 := by
    rw [hx]; simp only [Rows.uptoBulk, Rows.uptoBulkAll, List.map_cons, List.map_nil]; omega
  exact ⟨⟨y0, y1, y2, y3, y4⟩, hall, ⟨f0, f1, f2, f3, f4⟩, hbk⟩
theorem datB25 : DatB Tryd.prog 25 Point := fun {H enc w base spare held fuel cs x} h => by
  obtain ⟨xs, m, _, hx, hlen, hxl, hg⟩ := DataW.trod_struct Tryd.underlying25 h
  have hc : Tryd.prog.cellsOf 25 = 2 := by kernel_rfl
  have hxs : xs.length = 2 := hxl
  rw [hc] at hlen
  rcases xs with _ | ⟨x0, xs⟩
  · simp at hxs
  rcases xs with _ | ⟨x1, xs⟩
  · simp at hxs
  rcases xs with _ | ⟨_, _⟩
  rotate_left
  · simp at hxs
  have hc0 : Tryd.prog.cellsOf 3 = 1 := by kernel_rfl
  obtain ⟨y0, h0, f0, b0⟩ := (datB_int Tryd.underlying3) (hg 0 _ rfl)
  have e0 : (cs.drop 0).take (Tryd.prog.cellsOf 3) = Flat.enc y0 := h0
  rw [hc0] at e0
  have hc1 : Tryd.prog.cellsOf 3 = 1 := by kernel_rfl
  obtain ⟨y1, h1, f1, b1⟩ := (datB_int Tryd.underlying3) (hg 1 _ rfl)
  have e1 : (cs.drop 1).take (Tryd.prog.cellsOf 3) = Flat.enc y1 := h1
  rw [hc1] at e1
  have hall := (slice_cat e0 e1)
  rw [List.drop_zero, List.take_of_length_le (Nat.le_of_eq hlen)] at hall
  have hbk : Bulk.bk y0 + (Bulk.bk y1 + 1) ≤ Rows.uptoBulk x.1 := by
    rw [hx]; simp only [Rows.uptoBulk, Rows.uptoBulkAll, List.map_cons, List.map_nil]; omega
  exact ⟨⟨y0, y1⟩, hall, ⟨f0, f1⟩, hbk⟩
theorem datB28 : DatB Tryd.prog 28 Place := fun {H enc w base spare held fuel cs x} h => by
  obtain ⟨xs, m, _, hx, hlen, hxl, hg⟩ := DataW.trod_struct Tryd.underlying28 h
  have hc : Tryd.prog.cellsOf 28 = 6 := by kernel_rfl
  have hxs : xs.length = 5 := hxl
  rw [hc] at hlen
  rcases xs with _ | ⟨x0, xs⟩
  · simp at hxs
  rcases xs with _ | ⟨x1, xs⟩
  · simp at hxs
  rcases xs with _ | ⟨x2, xs⟩
  · simp at hxs
  rcases xs with _ | ⟨x3, xs⟩
  · simp at hxs
  rcases xs with _ | ⟨x4, xs⟩
  · simp at hxs
  rcases xs with _ | ⟨_, _⟩
  rotate_left
  · simp at hxs
  have hc0 : Tryd.prog.cellsOf 9 = 1 := by kernel_rfl
  obtain ⟨y0, h0, f0, b0⟩ := (datB_str Tryd.underlying9) (hg 0 _ rfl)
  have e0 : (cs.drop 0).take (Tryd.prog.cellsOf 9) = Flat.enc y0 := h0
  rw [hc0] at e0
  have hc1 : Tryd.prog.cellsOf 9 = 1 := by kernel_rfl
  obtain ⟨y1, h1, f1, b1⟩ := (datB_str Tryd.underlying9) (hg 1 _ rfl)
  have e1 : (cs.drop 1).take (Tryd.prog.cellsOf 9) = Flat.enc y1 := h1
  rw [hc1] at e1
  have hc2 : Tryd.prog.cellsOf 25 = 2 := by kernel_rfl
  obtain ⟨y2, h2, f2, b2⟩ := datB25 (hg 2 _ rfl)
  have e2 : (cs.drop 2).take (Tryd.prog.cellsOf 25) = Flat.enc y2 := h2
  rw [hc2] at e2
  have hc3 : Tryd.prog.cellsOf 3 = 1 := by kernel_rfl
  obtain ⟨y3, h3, f3, b3⟩ := (datB_int Tryd.underlying3) (hg 3 _ rfl)
  have e3 : (cs.drop 4).take (Tryd.prog.cellsOf 3) = Flat.enc y3 := h3
  rw [hc3] at e3
  have hc4 : Tryd.prog.cellsOf 4 = 1 := by kernel_rfl
  obtain ⟨y4, h4, f4, b4⟩ := (datB_bool Tryd.underlying4) (hg 4 _ rfl)
  have e4 : (cs.drop 5).take (Tryd.prog.cellsOf 4) = Flat.enc y4 := h4
  rw [hc4] at e4
  have hall := (slice_cat (slice_cat (slice_cat (slice_cat e0 e1) e2) e3) e4)
  rw [List.drop_zero, List.take_of_length_le (Nat.le_of_eq hlen)] at hall
  have hbk : Bulk.bk y0 + (Bulk.bk y1 + (Bulk.bk y2 + (Bulk.bk y3 + (Bulk.bk y4 + 1)))) ≤ Rows.uptoBulk x.1 := by
    rw [hx]; simp only [Rows.uptoBulk, Rows.uptoBulkAll, List.map_cons, List.map_nil]; omega
  exact ⟨⟨y0, y1, y2, y3, y4⟩, hall, ⟨f0, f1, f2, f3, f4⟩, hbk⟩
theorem own_law_OrderIsOne : ownKnob Tryd.prog.godebug = none := by kernel_rfl
theorem met_law_OrderIsOne (os : Os) : laidMet Tryd.prog Rows.mountOrderIsOneRow.laid ((World.laidAll Tryd.prog os Rows.mountOrderIsOneRow.laid).forCall (fun _ _ => 0) ⟨#[], #[.slice none 0 0, .slice none 0 0, .int .i64 0], []⟩).memory := laidMet_laidAll _ (by kernel_rfl) (by kernel_rfl)
theorem reads_law_OrderIsOne (os : Os) {H : Type} (enc : TypeId × Value → H) : ∃ places, DataW.whole enc Tryd.prog ((World.laidAll Tryd.prog os Rows.mountOrderIsOneRow.laid).forCall (fun _ _ => 0) ⟨#[], #[.slice none 0 0, .slice none 0 0, .int .i64 0], []⟩).memory Tryd.f7.params.toList Rows.mountOrderIsOneSpec.vars false ((#[.slice none 0 0, .slice none 0 0, .int .i64 0] : Array Value).toList) 8 = some ([.nil, .nil, .lit (.int .i64 0)], [], places) :=
  ⟨[], by kernel_rfl⟩
set_option maxRecDepth 100000 in
set_option maxHeartbeats 1000000 in
theorem lifted_law_OrderIsOne (os : Os) (started : os.Started) (H : Type) (enc : TypeId × Value → H) (F : Stop.Interp) :
    ReturnsInHanded {} Tryd.checked os 7 .any ((OpenSpec.ofChange Rows.mountOrderIsOneSpec).preRow enc Tryd.prog Tryd.f7 Rows.mountOrderIsOneRow.domain false Rows.mountOrderIsOneRow.laid) (((OpenSpec.ofChange Rows.mountOrderIsOneSpec).at F).post enc Tryd.prog Tryd.f7 false true false false) := by
  obtain ⟨places, hx⟩ := reads_law_OrderIsOne os enc
  refine returnsInHanded_of_row (C := Tryd.checked) (s := (OpenSpec.ofChange Rows.mountOrderIsOneSpec)) own_law_OrderIsOne started (by kernel_rfl) Tryd.func7
    (witness_row_atRef (enc := enc) (C := Tryd.checked) false (World.laidAll Tryd.prog os Rows.mountOrderIsOneRow.laid) #[.slice none 0 0, .slice none 0 0, .int .i64 0] (World.laidAll_os _ _ _) (by kernel_rfl) (by kernel_rfl) (by kernel_rfl)
      (OpenSpec.preRow_of_cond 8 hx (by kernel_rfl) (fun k hk => by cases hk) (by kernel_rfl) (met_law_OrderIsOne os))) ?_
  intro W base args ds gs before hval0 hW hcnd0 hcond hreach0 _ _ _
  clear hcnd0
  have hval : ∀ (j : Nat) t v, Tryd.f7.params[j]? = some t → args[j]? = some v → Value.okWide Tryd.prog W .any base t v := hval0
  have hW' := hW
  obtain ⟨p, q, hA0, hV, hpq, hfz, hnd⟩ := hW
  have hA : DataW.TrodAll enc Tryd.prog W 0 (fun _ => true) true Tryd.f7.params.toList args.toList ds p := hA0
  have hA1 := hA
  rw [Tryd.params7] at hA hval
  obtain ⟨v0, vs0, d0, ds0, p0, q0, hargs, rfl, hp0, h0, r0⟩ := trodAll_cons hA
  obtain ⟨v1, vs1, d1, ds1, p1, q1, rfl, rfl, hp1, h1, r1⟩ := trodAll_cons r0
  obtain ⟨v2, vs2, d2, ds2, p2, q2, rfl, rfl, hp2, h2, r2⟩ := trodAll_cons r1
  obtain ⟨rfl, rfl, hq3⟩ := trodAll_nil r2
  obtain rfl : args = #[v0, v1, v2] := by cases args; simp_all
  obtain ⟨rfl, rfl⟩ := trodVars_none hV
  obtain ⟨a0, l0, c0, rfl⟩ := okWide_slice Tryd.underlying22 (hval 0 22 v0 rfl rfl)
  obtain ⟨fuel0, hf0⟩ := h0
  obtain ⟨y0, ⟨A0, C0, e0, hv0⟩, f0, b0⟩ := (datB_slice Tryd.underlying22 (by kernel_rfl) datB95) hf0
  obtain rfl : l0 = y0.length := by have := congrArg (fun l => l[0]?) e0; simp [Value.cells] at this; exact this.2.1
  obtain ⟨rfl, rfl⟩ : a0 = A0 ∧ c0 = C0 := by have := congrArg (fun l => l[0]?) e0; simp [Value.cells] at this; exact this
  obtain ⟨a1, l1, c1, rfl⟩ := okWide_slice Tryd.underlying23 (hval 1 23 v1 rfl rfl)
  obtain ⟨fuel1, hf1⟩ := h1
  obtain ⟨y1, ⟨A1, C1, e1, hv1⟩, f1, b1⟩ := (datB_slice Tryd.underlying23 (by kernel_rfl) datB28) hf1
  obtain rfl : l1 = y1.length := by have := congrArg (fun l => l[0]?) e1; simp [Value.cells] at this; exact this.2.1
  obtain ⟨rfl, rfl⟩ : a1 = A1 ∧ c1 = C1 := by have := congrArg (fun l => l[0]?) e1; simp [Value.cells] at this; exact this
  obtain ⟨y2, rfl, _, _, w2⟩ := open_int Tryd.underlying3 (hval 2 3 v2 rfl rfl) h2
  refine Calls.mono (R_law_OrderIsOne y0 y1 y2 W _ _ (hv0.mono (fun b hb => ⟨⟨hb, fun e => e⟩, rfl⟩)) _ _ (hv1.mono (fun b hb => ⟨⟨hb, fun e => e⟩, rfl⟩)) _ (law_OrderIsOne_true y0 y1 y2 f0 f1)) ?_
  rintro e W' ⟨v, rfl, r, rfl, hr, hs⟩
  subst hr
  exact ⟨_, rfl, law_post (s := Rows.mountOrderIsOneSpec) (tb := 4) (by kernel_rfl) (by rw [Tryd.params7]; intro t ht; simp only [List.mem_cons, List.not_mem_nil, or_false] at ht; rcases ht with rfl | rfl | rfl <;> exact ⟨by kernel_rfl, by decide⟩) hW' hA1 (by rw [hpq, List.append_nil]) rfl rfl rfl rfl rfl (by kernel_rfl) Tryd.underlying4 hs⟩
theorem said_law_OrderIsOne : Rows.MountOrderIsOneSaid :=
  OpenClaim.holds_of_cond 7 Tryd.f7 rfl rfl rfl rfl rfl rfl rfl ⟨rfl, rfl, rfl, rfl, rfl⟩ rfl rfl rfl rfl rfl (by kernel_rfl) Tryd.func7 (by kernel_rfl)
    (of_decide_eq_true (by kernel_rfl)) (by unfold Func.isWrapper; first | (rw [if_pos (by decide +kernel)]; kernel_rfl) | (rw [if_neg (by decide +kernel)]; exact ⟨rfl, rfl⟩))
    (fun os started H enc _ F => by rw [OpenClaim.pre_eq_preRow]; exact lifted_law_OrderIsOne os started H enc F)
theorem plain_law_OrderIsOne (f : FuncId) (fn : Func) (hf : Tryd.pinned.checked.prog.funcNamed "etchhouse/etchhouselaw10.MountOrderIsOne" = some f) (hfn : Tryd.pinned.checked.prog.funcs[f]? = some fn) :
    false = Tryd.pinned.checked.prog.looks [] ∧ ∀ (j : Nat) t, fn.params[j]? = some t → Tryd.pinned.checked.prog.wantsStandIn t = false := by
  obtain rfl : f = 7 := Option.some.inj ((show Tryd.prog.funcNamed "etchhouse/etchhouselaw10.MountOrderIsOne" = some 7 by kernel_rfl).symm.trans hf) |>.symm
  obtain rfl : fn = Tryd.f7 := (Option.some.inj (Tryd.func7.symm.trans hfn)).symm
  refine ⟨by kernel_rfl, fun j t ht => ?_⟩
  rw [Tryd.params7] at ht
  have hm := Array.mem_of_getElem? ht
  simp only [List.mem_toArray, List.mem_cons, List.not_mem_nil, or_false] at hm
  rcases hm with rfl | rfl | rfl
  · exact (show Tryd.prog.wantsStandIn 22 = false by kernel_rfl)
  · exact (show Tryd.prog.wantsStandIn 23 = false by kernel_rfl)
  · exact (show Tryd.prog.wantsStandIn 3 = false by kernel_rfl)
theorem proved_law_OrderIsOne : Rows.MountOrderIsOneCardSaid :=
  Claim7.holds_tied_plain_at .later [] _ _ _ _ said_law_OrderIsOne (fun _ h => by cases h) (by kernel_rfl) (fun _ h => by cases h) mountOrderIsOne_row_tie rfl ⟨rfl, rfl⟩ (by kernel_rfl) rfl plain_law_OrderIsOne (by kernel_rfl)
end Go.Proofs.YtcmlcgjjkccaeaaDoor
