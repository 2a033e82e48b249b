/- Same is as specified, with all errors; jobs are the same as themselves in any order. For every input that can be read as data; no condition. -/
import Derived.Test.YtmopdabkfklefaaRows
import Derived.Test.YtmopdabkfklefaaBulk
import Derived.Test.YtmopdabkfklefaaDrillV
namespace Go.Proofs.Ytmopdabkfklefaa
open Go Go.RowKit Go.ChangeShapes Go.WideShapes Go.ChangeAt
open Go.ChangeMaps (open_string shut_string)
set_option linter.unusedVariables false

theorem dat56 : Dat Try.prog 56 Bit := fun {H enc w base spare held fuel cs x} h => by
  obtain ⟨xs, m, _, _, hlen, hxl, hg⟩ := DataW.trod_struct Try.underlying56 h
  have hc : Try.prog.cellsOf 56 = 4 := by kernel_rfl
  have hxs : xs.length = 4 := hxl
  rw [hc] at hlen
  have hc0 : Try.prog.cellsOf 9 = 1 := by kernel_rfl
  obtain ⟨y0, h0, f0⟩ := (dat_str Try.underlying9) ((hg 0 _ rfl).trans (List.getElem?_eq_getElem (by rw [hxs]; decide)))
  have e0 : (cs.drop 0).take (Try.prog.cellsOf 9) = Flat.enc y0 := h0
  rw [hc0] at e0
  have hc1 : Try.prog.cellsOf 3 = 1 := by kernel_rfl
  obtain ⟨y1, h1, f1⟩ := (dat_int Try.underlying3) ((hg 1 _ rfl).trans (List.getElem?_eq_getElem (by rw [hxs]; decide)))
  have e1 : (cs.drop 1).take (Try.prog.cellsOf 3) = Flat.enc y1 := h1
  rw [hc1] at e1
  have hc2 : Try.prog.cellsOf 3 = 1 := by kernel_rfl
  obtain ⟨y2, h2, f2⟩ := (dat_int Try.underlying3) ((hg 2 _ rfl).trans (List.getElem?_eq_getElem (by rw [hxs]; decide)))
  have e2 : (cs.drop 2).take (Try.prog.cellsOf 3) = Flat.enc y2 := h2
  rw [hc2] at e2
  have hc3 : Try.prog.cellsOf 3 = 1 := by kernel_rfl
  obtain ⟨y3, h3, f3⟩ := (dat_int Try.underlying3) ((hg 3 _ rfl).trans (List.getElem?_eq_getElem (by rw [hxs]; decide)))
  have e3 : (cs.drop 3).take (Try.prog.cellsOf 3) = Flat.enc y3 := h3
  rw [hc3] at e3
  have hall := (slice_cat (slice_cat (slice_cat e0 e1) e2) e3)
  rw [List.drop_zero, List.take_of_length_le (Nat.le_of_eq hlen)] at hall
  exact ⟨⟨y0, y1, y2, y3⟩, hall, f0, f1, f2, f3⟩
theorem dat24 : Dat Try.prog 24 Point := fun {H enc w base spare held fuel cs x} h => by
  obtain ⟨xs, m, _, _, hlen, hxl, hg⟩ := DataW.trod_struct Try.underlying24 h
  have hc : Try.prog.cellsOf 24 = 2 := by kernel_rfl
  have hxs : xs.length = 2 := hxl
  rw [hc] at hlen
  have hc0 : Try.prog.cellsOf 3 = 1 := by kernel_rfl
  obtain ⟨y0, h0, f0⟩ := (dat_int Try.underlying3) ((hg 0 _ rfl).trans (List.getElem?_eq_getElem (by rw [hxs]; decide)))
  have e0 : (cs.drop 0).take (Try.prog.cellsOf 3) = Flat.enc y0 := h0
  rw [hc0] at e0
  have hc1 : Try.prog.cellsOf 3 = 1 := by kernel_rfl
  obtain ⟨y1, h1, f1⟩ := (dat_int Try.underlying3) ((hg 1 _ rfl).trans (List.getElem?_eq_getElem (by rw [hxs]; decide)))
  have e1 : (cs.drop 1).take (Try.prog.cellsOf 3) = Flat.enc y1 := h1
  rw [hc1] at e1
  have hall := (slice_cat e0 e1)
  rw [List.drop_zero, List.take_of_length_le (Nat.le_of_eq hlen)] at hall
  exact ⟨⟨y0, y1⟩, hall, f0, f1⟩
theorem dat76 : Dat Try.prog 76 Hole := fun {H enc w base spare held fuel cs x} h => by
  obtain ⟨xs, m, _, _, hlen, hxl, hg⟩ := DataW.trod_struct Try.underlying76 h
  have hc : Try.prog.cellsOf 76 = 5 := by kernel_rfl
  have hxs : xs.length = 4 := hxl
  rw [hc] at hlen
  have hc0 : Try.prog.cellsOf 24 = 2 := by kernel_rfl
  obtain ⟨y0, h0, f0⟩ := dat24 ((hg 0 _ rfl).trans (List.getElem?_eq_getElem (by rw [hxs]; decide)))
  have e0 : (cs.drop 0).take (Try.prog.cellsOf 24) = Flat.enc y0 := h0
  rw [hc0] at e0
  have hc1 : Try.prog.cellsOf 3 = 1 := by kernel_rfl
  obtain ⟨y1, h1, f1⟩ := (dat_int Try.underlying3) ((hg 1 _ rfl).trans (List.getElem?_eq_getElem (by rw [hxs]; decide)))
  have e1 : (cs.drop 2).take (Try.prog.cellsOf 3) = Flat.enc y1 := h1
  rw [hc1] at e1
  have hc2 : Try.prog.cellsOf 3 = 1 := by kernel_rfl
  obtain ⟨y2, h2, f2⟩ := (dat_int Try.underlying3) ((hg 2 _ rfl).trans (List.getElem?_eq_getElem (by rw [hxs]; decide)))
  have e2 : (cs.drop 3).take (Try.prog.cellsOf 3) = Flat.enc y2 := h2
  rw [hc2] at e2
  have hc3 : Try.prog.cellsOf 4 = 1 := by kernel_rfl
  obtain ⟨y3, h3, f3⟩ := (dat_bool Try.underlying4) ((hg 3 _ rfl).trans (List.getElem?_eq_getElem (by rw [hxs]; decide)))
  have e3 : (cs.drop 4).take (Try.prog.cellsOf 4) = Flat.enc y3 := h3
  rw [hc3] at e3
  have hall := (slice_cat (slice_cat (slice_cat e0 e1) e2) e3)
  rw [List.drop_zero, List.take_of_length_le (Nat.le_of_eq hlen)] at hall
  exact ⟨⟨y0, y1, y2, y3⟩, hall, f0, f1, f2, f3⟩
theorem dat54 : Dat Try.prog 54 Job := fun {H enc w base spare held fuel cs x} h => by
  obtain ⟨xs, m, _, _, hlen, hxl, hg⟩ := DataW.trod_struct Try.underlying54 h
  have hc : Try.prog.cellsOf 54 = 2 := by kernel_rfl
  have hxs : xs.length = 2 := hxl
  rw [hc] at hlen
  have hc0 : Try.prog.cellsOf 9 = 1 := by kernel_rfl
  obtain ⟨y0, h0, f0⟩ := (dat_str Try.underlying9) ((hg 0 _ rfl).trans (List.getElem?_eq_getElem (by rw [hxs]; decide)))
  have e0 : (cs.drop 0).take (Try.prog.cellsOf 9) = Flat.enc y0 := h0
  rw [hc0] at e0
  have hc1 : Try.prog.cellsOf 34 = 1 := by kernel_rfl
  obtain ⟨y1, h1, f1⟩ := (dat_slice Try.underlying34 (by kernel_rfl) dat76) ((hg 1 _ rfl).trans (List.getElem?_eq_getElem (by rw [hxs]; decide)))
  obtain ⟨A1, C1, e1, v1⟩ := h1
  replace e1 : (cs.drop 1).take (Try.prog.cellsOf 34) = [.slice A1 y1.length C1] := e1
  rw [hc1] at e1
  have hall := (slice_cat e0 e1)
  rw [List.drop_zero, List.take_of_length_le (Nat.le_of_eq hlen)] at hall
  exact ⟨⟨y0, y1⟩, ⟨A1, C1, hall, v1⟩, f0, f1⟩

theorem own_law_Same : ownKnob Try.prog.godebug = none := by kernel_rfl
set_option maxRecDepth 100000 in
set_option maxHeartbeats 1000000 in
theorem lifted_law_Same (os : Os) (started : os.Started) (H : Type) (enc : TypeId × Value → H) :
    ReturnsInHanded {} Try.checked os 11 .any (Rows.drillSameMatchesSpecSpec.pre6 enc Try.prog Try.f11 Rows.drillSameMatchesSpecRow.domain false) (Rows.drillSameMatchesSpecSpec.post enc Try.prog Try.f11 false true false false) := by
  refine returnsInHanded_sized (C := Try.checked) own_law_Same started (by kernel_rfl) Try.func11
    (ChangeSpec.witness6 (enc := enc) (C := Try.checked) false ⟨#[], #[.slice none 0 0, .slice none 0 0, .slice none 0 0], []⟩ 8 (by kernel_rfl) (by kernel_rfl) (by kernel_rfl) (by kernel_rfl)) ?_
  intro W base args ds gs before hval0 hW hcnd0 _
  have hreach : (DataW.weightsEach Try.prog (Try.f11.params.toList ++ []) (ds ++ gs)).all (· ≤ reachBytes) = true := hcnd0
  clear hcnd0
  have hval : ∀ (j : Nat) t v, Try.f11.params[j]? = some t → args[j]? = some v → Value.okWide Try.prog W .any base t v := hval0
  have hW' := hW
  obtain ⟨p, q, hA0, hV, hpq, hfz, hnd⟩ := hW
  have hA : DataW.TrodAll enc Try.prog W 0 (fun _ => true) true Try.f11.params.toList args.toList ds p := hA0
  have hA1 := hA
  rw [Try.params11] at hA hval hreach
  obtain ⟨v0, vs0, d0, ds0, p0, q0, hargs, rfl, hp0, h0, r0⟩ := trodAll_cons hA
  obtain ⟨v1, vs1, d1, ds1, p1, q1, rfl, rfl, hp1, h1, r1⟩ := trodAll_cons r0
  obtain ⟨v2, vs2, d2, ds2, p2, q2, rfl, rfl, hp2, h2, r2⟩ := trodAll_cons r1
  obtain ⟨rfl, rfl, hq3⟩ := trodAll_nil r2
  obtain rfl : args = #[v0, v1, v2] := by cases args; simp_all
  obtain ⟨rfl, rfl⟩ := trodVars_none hV
  simp only [List.append_nil, List.toList_toArray, DataW.weightsEach, List.all_append, Bool.and_eq_true] at hreach
  obtain ⟨a0, l0, c0, rfl⟩ := okWide_slice Try.underlying48 (hval 0 48 v0 rfl rfl)
  obtain ⟨fuel0, hf0⟩ := h0
  obtain ⟨y0, ⟨A0, C0, e0, hv0⟩, f0⟩ := (dat_slice Try.underlying48 (by kernel_rfl) dat56) hf0
  obtain rfl : l0 = y0.length := by have := congrArg (fun l => l[0]?) e0; simp [Value.cells] at this; exact this.2.1
  obtain ⟨rfl, rfl⟩ : a0 = A0 ∧ c0 = C0 := by have := congrArg (fun l => l[0]?) e0; simp [Value.cells] at this; exact this
  obtain ⟨a1, l1, c1, rfl⟩ := okWide_slice Try.underlying49 (hval 1 49 v1 rfl rfl)
  obtain ⟨fuel1, hf1⟩ := h1
  obtain ⟨y1, ⟨A1, C1, e1, hv1⟩, f1⟩ := (dat_slice Try.underlying49 (by kernel_rfl) dat54) hf1
  obtain rfl : l1 = y1.length := by have := congrArg (fun l => l[0]?) e1; simp [Value.cells] at this; exact this.2.1
  obtain ⟨rfl, rfl⟩ : a1 = A1 ∧ c1 = C1 := by have := congrArg (fun l => l[0]?) e1; simp [Value.cells] at this; exact this
  have m1 : y1.length * 40 ≤ 140737488351232 := room_of_reach Try.underlying49 hf1 (hreach.2.1) (by kernel_rfl)
  obtain ⟨a2, l2, c2, rfl⟩ := okWide_slice Try.underlying49 (hval 2 49 v2 rfl rfl)
  obtain ⟨fuel2, hf2⟩ := h2
  obtain ⟨y2, ⟨A2, C2, e2, hv2⟩, f2⟩ := (dat_slice Try.underlying49 (by kernel_rfl) dat54) hf2
  obtain rfl : l2 = y2.length := by have := congrArg (fun l => l[0]?) e2; simp [Value.cells] at this; exact this.2.1
  obtain ⟨rfl, rfl⟩ : a2 = A2 ∧ c2 = C2 := by have := congrArg (fun l => l[0]?) e2; simp [Value.cells] at this; exact this
  refine Calls.mono (R_law_Same y0 y1 y2 W _ _ (hv0.mono (fun b hb => ⟨⟨hb, fun e => e⟩, rfl⟩)) _ _ (hv1.mono (fun b hb => ⟨⟨hb, fun e => e⟩, rfl⟩)) _ _ (hv2.mono (fun b hb => ⟨⟨hb, fun e => e⟩, rfl⟩)) _ (law_same y0 y1 y2 f0 m1)) ?_
  rintro e W' ⟨v, rfl, r, rfl, hr, hs⟩
  subst hr
  exact ⟨_, rfl, law_post (tb := 4) (by kernel_rfl) (by rw [Try.params11]; intro t ht; simp only [List.mem_cons, List.not_mem_nil, or_false] at ht; rcases ht with rfl | rfl | rfl <;> exact ⟨by kernel_rfl, by decide⟩) hW' hA1 (by rw [hpq, List.append_nil]) rfl rfl rfl rfl rfl (by kernel_rfl) Try.underlying4 hs⟩

theorem proved_law_Same : Rows.DrillSameMatchesSpecSaid :=
  OpenClaim.holds_of_wide 11 Try.f11 rfl rfl rfl rfl rfl rfl rfl ⟨rfl, rfl, rfl, rfl, rfl⟩ rfl rfl rfl rfl rfl (by kernel_rfl) Try.func11 (by kernel_rfl)
    (of_decide_eq_true (by kernel_rfl)) (by unfold Func.isWrapper; first | (rw [if_pos (by decide +kernel)]; kernel_rfl) | (rw [if_neg (by decide +kernel)]; exact ⟨rfl, rfl⟩))
    (fun os started H enc _ => lifted_law_Same os started H enc)
end Go.Proofs.Ytmopdabkfklefaa
