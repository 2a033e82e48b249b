/- The text of jobs is as specified, with all errors, and is read as them. For every input that can be read as data; no condition. The listed variables of Go's library are tied to the program's text. -/
import Derived.Test.YtdnilnmdbgcmoaaGreatDoorCards
import Derived.Test.YtdnilnmdbgcmoaaGreatDoorTie
import Derived.Test.YtdnilnmdbgcmoaaGreatDoorBulk
import Derived.Test.YtdnilnmdbgcmoaaGreatDoorDrI
import Derived.Test.YtdnilnmdbgcmoaaGreatDoorTextK
import Derived.Deep.DeepHandedRow
import Derived.Deep.DeepWitnessRowRef
import Derived.Lib.LaidTab
import Derived.Lay
namespace Go.Proofs.YtdnilnmdbgcmoaaGreatDoor
open Go Go.RowKit Go.ChangeShapes Go.WideShapes Go.ChangeAt
set_option linter.unusedVariables false

theorem datB41 : DatB Tryz.prog 41 Bit := fun {H enc w base spare held fuel cs x} h => by
  obtain ⟨xs, m, _, hx, hlen, hxl, hg⟩ := DataW.trod_struct Tryz.underlying41 h
  have hc : Tryz.prog.cellsOf 41 = 4 := by kernel_rfl
  have hxs : xs.length = 4 := hxl
  rw [hc] at hlen
  rcases xs with _ | ⟨x0, xs⟩
  · simp at hxs
  rcases xs with _ | ⟨x1, xs⟩
  · simp at hxs
  rcases xs with _ | ⟨x2, xs⟩
  · simp at hxs
  rcases xs with _ | ⟨x3, xs⟩
  · simp at hxs
  rcases xs with _ | ⟨_, _⟩
  rotate_left
  · simp at hxs
  have hc0 : Tryz.prog.cellsOf 9 = 1 := by kernel_rfl
  obtain ⟨y0, h0, f0, b0⟩ := (datB_str Tryz.underlying9) (hg 0 _ rfl)
  have e0 : (cs.drop 0).take (Tryz.prog.cellsOf 9) = Flat.enc y0 := h0
  rw [hc0] at e0
  have hc1 : Tryz.prog.cellsOf 3 = 1 := by kernel_rfl
  obtain ⟨y1, h1, f1, b1⟩ := (datB_int Tryz.underlying3) (hg 1 _ rfl)
  have e1 : (cs.drop 1).take (Tryz.prog.cellsOf 3) = Flat.enc y1 := h1
  rw [hc1] at e1
  have hc2 : Tryz.prog.cellsOf 3 = 1 := by kernel_rfl
  obtain ⟨y2, h2, f2, b2⟩ := (datB_int Tryz.underlying3) (hg 2 _ rfl)
  have e2 : (cs.drop 2).take (Tryz.prog.cellsOf 3) = Flat.enc y2 := h2
  rw [hc2] at e2
  have hc3 : Tryz.prog.cellsOf 3 = 1 := by kernel_rfl
  obtain ⟨y3, h3, f3, b3⟩ := (datB_int Tryz.underlying3) (hg 3 _ rfl)
  have e3 : (cs.drop 3).take (Tryz.prog.cellsOf 3) = Flat.enc y3 := h3
  rw [hc3] at e3
  have hall := (slice_cat (slice_cat (slice_cat e0 e1) e2) e3)
  rw [List.drop_zero, List.take_of_length_le (Nat.le_of_eq hlen)] at hall
  have hbk : Bulk.bk y0 + (Bulk.bk y1 + (Bulk.bk y2 + (Bulk.bk y3 + 1))) ≤ Rows.uptoBulk x.1 := by
    rw [hx]; simp only [Rows.uptoBulk, Rows.uptoBulkAll, List.map_cons, List.map_nil]; omega
  exact ⟨⟨y0, y1, y2, y3⟩, hall, ⟨f0, f1, f2, f3⟩, hbk⟩
theorem datB55 : DatB Tryz.prog 55 Point := fun {H enc w base spare held fuel cs x} h => by
  obtain ⟨xs, m, _, hx, hlen, hxl, hg⟩ := DataW.trod_struct Tryz.underlying55 h
  have hc : Tryz.prog.cellsOf 55 = 2 := by kernel_rfl
  have hxs : xs.length = 2 := hxl
  rw [hc] at hlen
  rcases xs with _ | ⟨x0, xs⟩
  · simp at hxs
  rcases xs with _ | ⟨x1, xs⟩
  · simp at hxs
  rcases xs with _ | ⟨_, _⟩
  rotate_left
  · simp at hxs
  have hc0 : Tryz.prog.cellsOf 3 = 1 := by kernel_rfl
  obtain ⟨y0, h0, f0, b0⟩ := (datB_int Tryz.underlying3) (hg 0 _ rfl)
  have e0 : (cs.drop 0).take (Tryz.prog.cellsOf 3) = Flat.enc y0 := h0
  rw [hc0] at e0
  have hc1 : Tryz.prog.cellsOf 3 = 1 := by kernel_rfl
  obtain ⟨y1, h1, f1, b1⟩ := (datB_int Tryz.underlying3) (hg 1 _ rfl)
  have e1 : (cs.drop 1).take (Tryz.prog.cellsOf 3) = Flat.enc y1 := h1
  rw [hc1] at e1
  have hall := (slice_cat e0 e1)
  rw [List.drop_zero, List.take_of_length_le (Nat.le_of_eq hlen)] at hall
  have hbk : Bulk.bk y0 + (Bulk.bk y1 + 1) ≤ Rows.uptoBulk x.1 := by
    rw [hx]; simp only [Rows.uptoBulk, Rows.uptoBulkAll, List.map_cons, List.map_nil]; omega
  exact ⟨⟨y0, y1⟩, hall, ⟨f0, f1⟩, hbk⟩
theorem datB92 : DatB Tryz.prog 92 Hole := fun {H enc w base spare held fuel cs x} h => by
  obtain ⟨xs, m, _, hx, hlen, hxl, hg⟩ := DataW.trod_struct Tryz.underlying92 h
  have hc : Tryz.prog.cellsOf 92 = 5 := by kernel_rfl
  have hxs : xs.length = 4 := hxl
  rw [hc] at hlen
  rcases xs with _ | ⟨x0, xs⟩
  · simp at hxs
  rcases xs with _ | ⟨x1, xs⟩
  · simp at hxs
  rcases xs with _ | ⟨x2, xs⟩
  · simp at hxs
  rcases xs with _ | ⟨x3, xs⟩
  · simp at hxs
  rcases xs with _ | ⟨_, _⟩
  rotate_left
  · simp at hxs
  have hc0 : Tryz.prog.cellsOf 55 = 2 := by kernel_rfl
  obtain ⟨y0, h0, f0, b0⟩ := datB55 (hg 0 _ rfl)
  have e0 : (cs.drop 0).take (Tryz.prog.cellsOf 55) = Flat.enc y0 := h0
  rw [hc0] at e0
  have hc1 : Tryz.prog.cellsOf 3 = 1 := by kernel_rfl
  obtain ⟨y1, h1, f1, b1⟩ := (datB_int Tryz.underlying3) (hg 1 _ rfl)
  have e1 : (cs.drop 2).take (Tryz.prog.cellsOf 3) = Flat.enc y1 := h1
  rw [hc1] at e1
  have hc2 : Tryz.prog.cellsOf 3 = 1 := by kernel_rfl
  obtain ⟨y2, h2, f2, b2⟩ := (datB_int Tryz.underlying3) (hg 2 _ rfl)
  have e2 : (cs.drop 3).take (Tryz.prog.cellsOf 3) = Flat.enc y2 := h2
  rw [hc2] at e2
  have hc3 : Tryz.prog.cellsOf 4 = 1 := by kernel_rfl
  obtain ⟨y3, h3, f3, b3⟩ := (datB_bool Tryz.underlying4) (hg 3 _ rfl)
  have e3 : (cs.drop 4).take (Tryz.prog.cellsOf 4) = Flat.enc y3 := h3
  rw [hc3] at e3
  have hall := (slice_cat (slice_cat (slice_cat e0 e1) e2) e3)
  rw [List.drop_zero, List.take_of_length_le (Nat.le_of_eq hlen)] at hall
  have hbk : Bulk.bk y0 + (Bulk.bk y1 + (Bulk.bk y2 + (Bulk.bk y3 + 1))) ≤ Rows.uptoBulk x.1 := by
    rw [hx]; simp only [Rows.uptoBulk, Rows.uptoBulkAll, List.map_cons, List.map_nil]; omega
  exact ⟨⟨y0, y1, y2, y3⟩, hall, ⟨f0, f1, f2, f3⟩, hbk⟩
theorem datB90 : DatB Tryz.prog 90 Job := fun {H enc w base spare held fuel cs x} h => by
  obtain ⟨xs, m, _, hx, hlen, hxl, hg⟩ := DataW.trod_struct Tryz.underlying90 h
  have hc : Tryz.prog.cellsOf 90 = 2 := by kernel_rfl
  have hxs : xs.length = 2 := hxl
  rw [hc] at hlen
  rcases xs with _ | ⟨x0, xs⟩
  · simp at hxs
  rcases xs with _ | ⟨x1, xs⟩
  · simp at hxs
  rcases xs with _ | ⟨_, _⟩
  rotate_left
  · simp at hxs
  have hc0 : Tryz.prog.cellsOf 9 = 1 := by kernel_rfl
  obtain ⟨y0, h0, f0, b0⟩ := (datB_str Tryz.underlying9) (hg 0 _ rfl)
  have e0 : (cs.drop 0).take (Tryz.prog.cellsOf 9) = Flat.enc y0 := h0
  rw [hc0] at e0
  have hc1 : Tryz.prog.cellsOf 88 = 1 := by kernel_rfl
  obtain ⟨y1, h1, f1, b1⟩ := (datB_slice Tryz.underlying88 (by kernel_rfl) datB92) (hg 1 _ rfl)
  obtain ⟨A1, C1, e1, v1⟩ := h1
  replace e1 : (cs.drop 1).take (Tryz.prog.cellsOf 88) = [.slice A1 y1.length C1] := e1
  rw [hc1] at e1
  have hall := (slice_cat e0 e1)
  rw [List.drop_zero, List.take_of_length_le (Nat.le_of_eq hlen)] at hall
  have hbk : Bulk.bk y0 + (Bulk.bk y1 + 1) ≤ Rows.uptoBulk x.1 := by
    rw [hx]; simp only [Rows.uptoBulk, Rows.uptoBulkAll, List.map_cons, List.map_nil]; omega
  exact ⟨⟨y0, y1⟩, ⟨A1, C1, hall, v1⟩, ⟨f0, f1⟩, hbk⟩

theorem own_law_DrillTexts : ownKnob Tryz.prog.godebug = none := by kernel_rfl
theorem met_law_DrillTexts (os : Os) : laidMet Tryz.prog Rows.drillTextsMatchSpecRow.laid ((World.laidAll Tryz.prog os Rows.drillTextsMatchSpecRow.laid).forCall (fun _ _ => 0) ⟨#[], #[.slice none 0 0, .slice none 0 0], []⟩).memory := laidMet_laidAll _ (by kernel_rfl) (by kernel_rfl)
theorem reads_law_DrillTexts (os : Os) {H : Type} (enc : TypeId × Value → H) : ∃ places, DataW.whole enc Tryz.prog ((World.laidAll Tryz.prog os Rows.drillTextsMatchSpecRow.laid).forCall (fun _ _ => 0) ⟨#[], #[.slice none 0 0, .slice none 0 0], []⟩).memory Tryz.f7.params.toList Rows.drillTextsMatchSpecSpec.vars false ((#[.slice none 0 0, .slice none 0 0] : Array Value).toList) 8 = some ([.nil, .nil], [], places) :=
  ⟨[], by kernel_rfl⟩
set_option maxRecDepth 100000 in
set_option maxHeartbeats 1000000 in
theorem lifted_law_DrillTexts (os : Os) (started : os.Started) (H : Type) (enc : TypeId × Value → H) (F : Stop.Interp) :
    ReturnsInHanded {} Tryz.checked os 7 .any ((OpenSpec.ofChange Rows.drillTextsMatchSpecSpec).preRow enc Tryz.prog Tryz.f7 Rows.drillTextsMatchSpecRow.domain false Rows.drillTextsMatchSpecRow.laid) (((OpenSpec.ofChange Rows.drillTextsMatchSpecSpec).at F).post enc Tryz.prog Tryz.f7 false true false false) := by
  obtain ⟨places, hx⟩ := reads_law_DrillTexts os enc
  refine returnsInHanded_of_row (C := Tryz.checked) (s := (OpenSpec.ofChange Rows.drillTextsMatchSpecSpec)) own_law_DrillTexts started (by kernel_rfl) Tryz.func7
    (witness_row_atRef (enc := enc) (C := Tryz.checked) false (World.laidAll Tryz.prog os Rows.drillTextsMatchSpecRow.laid) #[.slice none 0 0, .slice none 0 0] (World.laidAll_os _ _ _) (by kernel_rfl) (by kernel_rfl) (by kernel_rfl)
      (OpenSpec.preRow_of_cond 8 hx (by kernel_rfl) (fun k hk => by cases hk) (by kernel_rfl) (met_law_DrillTexts os))) ?_
  intro W base args ds gs before hval0 hW hcnd0 hcond hreach0 hlaid _ _
  clear hcnd0
  have hval : ∀ (j : Nat) t v, Tryz.f7.params[j]? = some t → args[j]? = some v → Value.okWide Tryz.prog W .any base t v := hval0
  have hW' := hW
  obtain ⟨p, q, hA0, hV, hpq, hfz, hnd⟩ := hW
  have hA : DataW.TrodAll enc Tryz.prog W 0 (fun _ => true) true Tryz.f7.params.toList args.toList ds p := hA0
  have hA1 := hA
  rw [Tryz.params7] at hA hval
  obtain ⟨v0, vs0, d0, ds0, p0, q0, hargs, rfl, hp0, h0, r0⟩ := trodAll_cons hA
  obtain ⟨v1, vs1, d1, ds1, p1, q1, rfl, rfl, hp1, h1, r1⟩ := trodAll_cons r0
  obtain ⟨rfl, rfl, hq2⟩ := trodAll_nil r1
  obtain rfl : args = #[v0, v1] := by cases args; simp_all
  obtain ⟨rfl, rfl⟩ := trodVars_none hV
  obtain ⟨a0, l0, c0, rfl⟩ := okWide_slice Tryz.underlying35 (hval 0 35 v0 rfl rfl)
  obtain ⟨fuel0, hf0⟩ := h0
  obtain ⟨y0, ⟨A0, C0, e0, hv0⟩, f0, b0⟩ := (datB_slice Tryz.underlying35 (by kernel_rfl) datB41) hf0
  obtain rfl : l0 = y0.length := by have := congrArg (fun l => l[0]?) e0; simp [Value.cells] at this; exact this.2.1
  obtain ⟨rfl, rfl⟩ : a0 = A0 ∧ c0 = C0 := by have := congrArg (fun l => l[0]?) e0; simp [Value.cells] at this; exact this
  obtain ⟨a1, l1, c1, rfl⟩ := okWide_slice Tryz.underlying36 (hval 1 36 v1 rfl rfl)
  obtain ⟨fuel1, hf1⟩ := h1
  obtain ⟨y1, ⟨A1, C1, e1, hv1⟩, f1, b1⟩ := (datB_slice Tryz.underlying36 (by kernel_rfl) datB90) hf1
  obtain rfl : l1 = y1.length := by have := congrArg (fun l => l[0]?) e1; simp [Value.cells] at this; exact this.2.1
  obtain ⟨rfl, rfl⟩ : a1 = A1 ∧ c1 = C1 := by have := congrArg (fun l => l[0]?) e1; simp [Value.cells] at this; exact this
  have hT := tabIn_of_laid hlaid (by kernel_rfl)
  refine Calls.mono (R_law_DrillTexts y0 y1 W _ _ (hv0.mono (fun b hb => ⟨⟨hb, fun e => e⟩, rfl⟩)) _ _ (hv1.mono (fun b hb => ⟨⟨hb, fun e => e⟩, rfl⟩)) hT _ (law_DrillTexts_true y0 y1 f0)) ?_
  rintro e W' ⟨v, rfl, r, rfl, hr, hs⟩
  subst hr
  exact ⟨_, rfl, law_post (s := Rows.drillTextsMatchSpecSpec) (tb := 4) (by kernel_rfl) (by rw [Tryz.params7]; intro t ht; simp only [List.mem_cons, List.not_mem_nil, or_false] at ht; rcases ht with rfl | rfl <;> exact ⟨by kernel_rfl, by decide⟩) hW' hA1 (by rw [hpq, List.append_nil]) rfl rfl rfl rfl rfl (by kernel_rfl) Tryz.underlying4 hs⟩
end Go.Proofs.YtdnilnmdbgcmoaaGreatDoor
