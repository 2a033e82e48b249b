/- Chapter texts of ours, as far as the claim needs them. -/
import Derived.Test.YtdnilnmdbgcmoaaGreatDoorCards
import Derived.Test.YtdnilnmdbgcmoaaGreatDoorTie
import Derived.Test.YtdnilnmdbgcmoaaGreatDoorBulk
import Derived.Test.YtdnilnmdbgcmoaaGreatDoorRxE
import Derived.Test.YtdnilnmdbgcmoaaGreatDoorTextK
import Derived.Deep.DeepHandedRow
import Derived.Deep.DeepWitnessRowRef
import Derived.Lib.LaidTab
import Derived.Lay
namespace Go.Proofs.YtdnilnmdbgcmoaaGreatDoor
open Go Go.RowKit Go.ChangeShapes Go.WideShapes Go.ChangeAt
set_option linter.unusedVariables false
set_option linter.unusedSectionVars false
set_option linter.unusedSimpArgs false
theorem datB142 : DatB Tryz.prog 142 Cell := fun {H enc w base spare held fuel cs x} h => by
  obtain ⟨xs, m, _, hx, hlen, hxl, hg⟩ := DataW.trod_struct Tryz.underlying142 h
  have hc : Tryz.prog.cellsOf 142 = 3 := by kernel_rfl
  have hxs : xs.length = 3 := hxl
  rw [hc] at hlen
  rcases xs with _ | ⟨x0, xs⟩
  · simp at hxs
  rcases xs with _ | ⟨x1, xs⟩
  · simp at hxs
  rcases xs with _ | ⟨x2, xs⟩
  · simp at hxs
  rcases xs with _ | ⟨_, _⟩
  rotate_left
  · simp at hxs
  have hc0 : Tryz.prog.cellsOf 3 = 1 := by kernel_rfl
  obtain ⟨y0, h0, f0, b0⟩ := (datB_int Tryz.underlying3) (hg 0 _ rfl)
  have e0 : (cs.drop 0).take (Tryz.prog.cellsOf 3) = Flat.enc y0 := h0
  rw [hc0] at e0
  have hc1 : Tryz.prog.cellsOf 3 = 1 := by kernel_rfl
  obtain ⟨y1, h1, f1, b1⟩ := (datB_int Tryz.underlying3) (hg 1 _ rfl)
  have e1 : (cs.drop 1).take (Tryz.prog.cellsOf 3) = Flat.enc y1 := h1
  rw [hc1] at e1
  have hc2 : Tryz.prog.cellsOf 3 = 1 := by kernel_rfl
  obtain ⟨y2, h2, f2, b2⟩ := (datB_int Tryz.underlying3) (hg 2 _ rfl)
  have e2 : (cs.drop 2).take (Tryz.prog.cellsOf 3) = Flat.enc y2 := h2
  rw [hc2] at e2
  have hall := (slice_cat (slice_cat e0 e1) e2)
  rw [List.drop_zero, List.take_of_length_le (Nat.le_of_eq hlen)] at hall
  have hbk : Bulk.bk y0 + (Bulk.bk y1 + (Bulk.bk y2 + 1)) ≤ Rows.uptoBulk x.1 := by
    rw [hx]; simp only [Rows.uptoBulk, Rows.uptoBulkAll, List.map_cons, List.map_nil]; omega
  exact ⟨⟨y0, y1, y2⟩, hall, ⟨f0, f1, f2⟩, hbk⟩
theorem datB130 : DatB Tryz.prog 130 Routed := fun {H enc w base spare held fuel cs x} h => by
  obtain ⟨xs, m, _, hx, hlen, hxl, hg⟩ := DataW.trod_struct Tryz.underlying130 h
  have hc : Tryz.prog.cellsOf 130 = 2 := by kernel_rfl
  have hxs : xs.length = 2 := hxl
  rw [hc] at hlen
  rcases xs with _ | ⟨x0, xs⟩
  · simp at hxs
  rcases xs with _ | ⟨x1, xs⟩
  · simp at hxs
  rcases xs with _ | ⟨_, _⟩
  rotate_left
  · simp at hxs
  have hc0 : Tryz.prog.cellsOf 9 = 1 := by kernel_rfl
  obtain ⟨y0, h0, f0, b0⟩ := (datB_str Tryz.underlying9) (hg 0 _ rfl)
  have e0 : (cs.drop 0).take (Tryz.prog.cellsOf 9) = Flat.enc y0 := h0
  rw [hc0] at e0
  have hc1 : Tryz.prog.cellsOf 128 = 1 := by kernel_rfl
  obtain ⟨y1, h1, f1, b1⟩ := (datB_slice Tryz.underlying128 (by kernel_rfl) (datB_slice Tryz.underlying131 (by kernel_rfl) datB142)) (hg 1 _ rfl)
  obtain ⟨A1, C1, e1, v1⟩ := h1
  replace e1 : (cs.drop 1).take (Tryz.prog.cellsOf 128) = [.slice A1 y1.length C1] := e1
  rw [hc1] at e1
  have hall := (slice_cat e0 e1)
  rw [List.drop_zero, List.take_of_length_le (Nat.le_of_eq hlen)] at hall
  have hbk : Bulk.bk y0 + (Bulk.bk y1 + 1) ≤ Rows.uptoBulk x.1 := by
    rw [hx]; simp only [Rows.uptoBulk, Rows.uptoBulkAll, List.map_cons, List.map_nil]; omega
  exact ⟨⟨y0, y1⟩, ⟨A1, C1, hall, v1⟩, ⟨f0, f1⟩, hbk⟩
theorem own_law_RouteTexts : ownKnob Tryz.prog.godebug = none := by kernel_rfl
theorem met_law_RouteTexts (os : Os) : laidMet Tryz.prog Rows.routeTextsMatchSpecUptoRow.laid ((World.laidAll Tryz.prog os Rows.routeTextsMatchSpecUptoRow.laid).forCall (fun _ _ => 0) ⟨#[], #[.slice none 0 0], []⟩).memory := laidMet_laidAll _ (by kernel_rfl) (by kernel_rfl)
theorem reads_law_RouteTexts (os : Os) {H : Type} (enc : TypeId × Value → H) : ∃ places, DataW.whole enc Tryz.prog ((World.laidAll Tryz.prog os Rows.routeTextsMatchSpecUptoRow.laid).forCall (fun _ _ => 0) ⟨#[], #[.slice none 0 0], []⟩).memory Tryz.f10.params.toList Rows.routeTextsMatchSpecSpec.vars false ((#[.slice none 0 0] : Array Value).toList) 8 = some ([.nil], [], places) :=
  ⟨[], by kernel_rfl⟩
set_option maxRecDepth 100000 in
set_option maxHeartbeats 1000000 in
theorem lifted_law_RouteTexts (os : Os) (started : os.Started) (H : Type) (enc : TypeId × Value → H) (F : Stop.Interp) :
    ReturnsInHanded {} Tryz.checked os 10 .any ((Rows.OpenSpec.upto Rows.routeTextsMatchSpecSpec).preRow enc Tryz.prog Tryz.f10 Rows.routeTextsMatchSpecUptoRow.domain false Rows.routeTextsMatchSpecUptoRow.laid) (((Rows.OpenSpec.upto Rows.routeTextsMatchSpecSpec).at F).post enc Tryz.prog Tryz.f10 false true false false) := by
  obtain ⟨places, hx⟩ := reads_law_RouteTexts os enc
  refine returnsInHanded_of_row (C := Tryz.checked) (s := (Rows.OpenSpec.upto Rows.routeTextsMatchSpecSpec)) own_law_RouteTexts started (by kernel_rfl) Tryz.func10
    (witness_row_atRef (enc := enc) (C := Tryz.checked) false (World.laidAll Tryz.prog os Rows.routeTextsMatchSpecUptoRow.laid) #[.slice none 0 0] (World.laidAll_os _ _ _) (by kernel_rfl) (by kernel_rfl) (by kernel_rfl)
      (OpenSpec.preRow_of_cond 8 hx (by kernel_rfl) (fun k hk => by cases hk; kernel_rfl) (by kernel_rfl) (met_law_RouteTexts os))) ?_
  intro W base args ds gs before hval0 hW hcnd0 hcond hreach0 hlaid _ _
  clear hcnd0
  have hval : ∀ (j : Nat) t v, Tryz.f10.params[j]? = some t → args[j]? = some v → Value.okWide Tryz.prog W .any base t v := hval0
  have hW' := hW
  obtain ⟨p, q, hA0, hV, hpq, hfz, hnd⟩ := hW
  have hA : DataW.TrodAll enc Tryz.prog W 0 (fun _ => true) true Tryz.f10.params.toList args.toList ds p := hA0
  have hA1 := hA
  rw [Tryz.params10] at hA hval
  obtain ⟨v0, vs0, d0, ds0, p0, q0, hargs, rfl, hp0, h0, r0⟩ := trodAll_cons hA
  obtain ⟨rfl, rfl, hq1⟩ := trodAll_nil r0
  obtain rfl : args = #[v0] := by cases args; simp_all
  obtain ⟨rfl, rfl⟩ := trodVars_none hV
  have hbk : Rows.uptoBulkAll ([d0] ++ []) ≤ 1048576 := of_decide_eq_true (hcond _ rfl)
  simp only [List.append_nil, Rows.uptoBulkAll] at hbk
  obtain ⟨a0, l0, c0, rfl⟩ := okWide_slice Tryz.underlying62 (hval 0 62 v0 rfl rfl)
  obtain ⟨fuel0, hf0⟩ := h0
  obtain ⟨y0, ⟨A0, C0, e0, hv0⟩, f0, b0⟩ := (datB_slice Tryz.underlying62 (by kernel_rfl) datB130) hf0
  obtain rfl : l0 = y0.length := by have := congrArg (fun l => l[0]?) e0; simp [Value.cells] at this; exact this.2.1
  obtain ⟨rfl, rfl⟩ : a0 = A0 ∧ c0 = C0 := by have := congrArg (fun l => l[0]?) e0; simp [Value.cells] at this; exact this
  have k0 : Bulk.bk y0 ≤ 1048576 := by have hb := b0; dsimp only at hb; omega
  have hT := tabIn_of_laid hlaid (by kernel_rfl)
  refine Calls.mono (R_law_RouteTexts y0 W _ _ (hv0.mono (fun b hb => ⟨⟨hb, fun e => e⟩, rfl⟩)) hT _ (law_RouteTexts_upto y0 k0)) ?_
  rintro e W' ⟨v, rfl, r, rfl, hr, hs⟩
  subst hr
  exact ⟨_, rfl, law_post (s := Rows.routeTextsMatchSpecSpec) (tb := 4) (by kernel_rfl) (by rw [Tryz.params10]; intro t ht; simp only [List.mem_cons, List.not_mem_nil, or_false] at ht; subst ht <;> exact ⟨by kernel_rfl, by decide⟩) hW' hA1 (by rw [hpq, List.append_nil]) rfl rfl rfl rfl rfl (by kernel_rfl) Tryz.underlying4 hs⟩
theorem said_law_RouteTexts : Rows.RouteTextsMatchSpecUptoSaid :=
  OpenClaim.holds_of_cond 10 Tryz.f10 rfl rfl rfl rfl rfl rfl rfl ⟨rfl, rfl, rfl, rfl, rfl⟩ rfl rfl rfl rfl rfl (by kernel_rfl) Tryz.func10 (by kernel_rfl)
    (of_decide_eq_true (by kernel_rfl)) (by unfold Func.isWrapper; first | (rw [if_pos (by decide +kernel)]; kernel_rfl) | (rw [if_neg (by decide +kernel)]; exact ⟨rfl, rfl⟩))
    (fun os started H enc _ F => by rw [OpenClaim.pre_eq_preRow]; exact lifted_law_RouteTexts os started H enc F)
theorem plain_law_RouteTexts (f : FuncId) (fn : Func) (hf : Tryz.pinned.checked.prog.funcNamed "etchhouse/etchhouselaw7.RouteTextsMatchSpec" = some f) (hfn : Tryz.pinned.checked.prog.funcs[f]? = some fn) :
    true = Tryz.pinned.checked.prog.looks [] ∧ ∀ (j : Nat) t, fn.params[j]? = some t → Tryz.pinned.checked.prog.wantsStandIn t = false := by
  obtain rfl : f = 10 := Option.some.inj ((show Tryz.prog.funcNamed "etchhouse/etchhouselaw7.RouteTextsMatchSpec" = some 10 by kernel_rfl).symm.trans hf) |>.symm
  obtain rfl : fn = Tryz.f10 := (Option.some.inj (Tryz.func10.symm.trans hfn)).symm
  refine ⟨by kernel_rfl, fun j t ht => ?_⟩
  rw [Tryz.params10] at ht
  have hm := Array.mem_of_getElem? ht
  simp only [List.mem_toArray, List.mem_cons, List.not_mem_nil, or_false] at hm
  subst hm
  · exact (show Tryz.prog.wantsStandIn 62 = false by kernel_rfl)
theorem proved_law_RouteTexts : Rows.RouteTextsMatchSpecUptoCardSaid :=
  Claim7.holds_tied_plain_at .later [] _ _ _ _ said_law_RouteTexts (fun _ h => by cases h) (by kernel_rfl) (fun _ h => by cases h) routeTextsMatchSpecUpto_row_tie rfl ⟨rfl, rfl⟩ (by kernel_rfl) rfl plain_law_RouteTexts (by kernel_rfl)
end Go.Proofs.YtdnilnmdbgcmoaaGreatDoor
