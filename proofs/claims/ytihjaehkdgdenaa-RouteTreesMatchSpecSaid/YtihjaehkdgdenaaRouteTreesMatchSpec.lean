/- Chapter texts of ours, as far as the claim needs them. -/
import Derived.Test.YtihjaehkdgdenaaRows
import Derived.Test.YtihjaehkdgdenaaClaim
import Derived.Test.YtihjaehkdgdenaaRuI
namespace Go.Proofs.Ytihjaehkdgdenaa
open Go Go.RowKit Go.ChangeShapes Go.WideShapes Go.ChangeAt
open Go.ChangeMaps (open_string shut_string)
set_option linter.unusedVariables false
theorem dat28 : Dat Try.prog 28 Cell := fun {H enc w base spare held fuel cs x} h => by
  obtain ⟨xs, m, _, _, hlen, hxl, hg⟩ := DataW.trod_struct Try.underlying28 h
  have hc : Try.prog.cellsOf 28 = 3 := by kernel_rfl
  have hxs : xs.length = 3 := hxl
  rw [hc] at hlen
  have hc0 : Try.prog.cellsOf 3 = 1 := by kernel_rfl
  obtain ⟨y0, h0, f0⟩ := (dat_int Try.underlying3) ((hg 0 _ rfl).trans (List.getElem?_eq_getElem (by rw [hxs]; decide)))
  have e0 : (cs.drop 0).take (Try.prog.cellsOf 3) = Flat.enc y0 := h0
  rw [hc0] at e0
  have hc1 : Try.prog.cellsOf 3 = 1 := by kernel_rfl
  obtain ⟨y1, h1, f1⟩ := (dat_int Try.underlying3) ((hg 1 _ rfl).trans (List.getElem?_eq_getElem (by rw [hxs]; decide)))
  have e1 : (cs.drop 1).take (Try.prog.cellsOf 3) = Flat.enc y1 := h1
  rw [hc1] at e1
  have hc2 : Try.prog.cellsOf 3 = 1 := by kernel_rfl
  obtain ⟨y2, h2, f2⟩ := (dat_int Try.underlying3) ((hg 2 _ rfl).trans (List.getElem?_eq_getElem (by rw [hxs]; decide)))
  have e2 : (cs.drop 2).take (Try.prog.cellsOf 3) = Flat.enc y2 := h2
  rw [hc2] at e2
  have hall := (slice_cat (slice_cat e0 e1) e2)
  rw [List.drop_zero, List.take_of_length_le (Nat.le_of_eq hlen)] at hall
  exact ⟨⟨y0, y1, y2⟩, hall, f0, f1, f2⟩
theorem dat24 : Dat Try.prog 24 Grid := fun {H enc w base spare held fuel cs x} h => by
  obtain ⟨xs, m, _, _, hlen, hxl, hg⟩ := DataW.trod_struct Try.underlying24 h
  have hc : Try.prog.cellsOf 24 = 4 := by kernel_rfl
  have hxs : xs.length = 4 := hxl
  rw [hc] at hlen
  have hc0 : Try.prog.cellsOf 3 = 1 := by kernel_rfl
  obtain ⟨y0, h0, f0⟩ := (dat_int Try.underlying3) ((hg 0 _ rfl).trans (List.getElem?_eq_getElem (by rw [hxs]; decide)))
  have e0 : (cs.drop 0).take (Try.prog.cellsOf 3) = Flat.enc y0 := h0
  rw [hc0] at e0
  have hc1 : Try.prog.cellsOf 3 = 1 := by kernel_rfl
  obtain ⟨y1, h1, f1⟩ := (dat_int Try.underlying3) ((hg 1 _ rfl).trans (List.getElem?_eq_getElem (by rw [hxs]; decide)))
  have e1 : (cs.drop 1).take (Try.prog.cellsOf 3) = Flat.enc y1 := h1
  rw [hc1] at e1
  have hc2 : Try.prog.cellsOf 3 = 1 := by kernel_rfl
  obtain ⟨y2, h2, f2⟩ := (dat_int Try.underlying3) ((hg 2 _ rfl).trans (List.getElem?_eq_getElem (by rw [hxs]; decide)))
  have e2 : (cs.drop 2).take (Try.prog.cellsOf 3) = Flat.enc y2 := h2
  rw [hc2] at e2
  have hc3 : Try.prog.cellsOf 22 = 1 := by kernel_rfl
  obtain ⟨y3, h3, f3⟩ := (dat_slice Try.underlying22 (by kernel_rfl) dat28) ((hg 3 _ rfl).trans (List.getElem?_eq_getElem (by rw [hxs]; decide)))
  obtain ⟨A3, C3, e3, v3⟩ := h3
  replace e3 : (cs.drop 3).take (Try.prog.cellsOf 22) = [.slice A3 y3.length C3] := e3
  rw [hc3] at e3
  have hall := (slice_cat (slice_cat (slice_cat e0 e1) e2) e3)
  rw [List.drop_zero, List.take_of_length_le (Nat.le_of_eq hlen)] at hall
  exact ⟨⟨y0, y1, y2, y3⟩, ⟨A3, C3, hall, v3⟩, f0, f1, f2, f3⟩
theorem dat26 : Dat Try.prog 26 Costs := fun {H enc w base spare held fuel cs x} h => by
  obtain ⟨xs, m, _, _, hlen, hxl, hg⟩ := DataW.trod_struct Try.underlying26 h
  have hc : Try.prog.cellsOf 26 = 4 := by kernel_rfl
  have hxs : xs.length = 4 := hxl
  rw [hc] at hlen
  have hc0 : Try.prog.cellsOf 3 = 1 := by kernel_rfl
  obtain ⟨y0, h0, f0⟩ := (dat_int Try.underlying3) ((hg 0 _ rfl).trans (List.getElem?_eq_getElem (by rw [hxs]; decide)))
  have e0 : (cs.drop 0).take (Try.prog.cellsOf 3) = Flat.enc y0 := h0
  rw [hc0] at e0
  have hc1 : Try.prog.cellsOf 3 = 1 := by kernel_rfl
  obtain ⟨y1, h1, f1⟩ := (dat_int Try.underlying3) ((hg 1 _ rfl).trans (List.getElem?_eq_getElem (by rw [hxs]; decide)))
  have e1 : (cs.drop 1).take (Try.prog.cellsOf 3) = Flat.enc y1 := h1
  rw [hc1] at e1
  have hc2 : Try.prog.cellsOf 3 = 1 := by kernel_rfl
  obtain ⟨y2, h2, f2⟩ := (dat_int Try.underlying3) ((hg 2 _ rfl).trans (List.getElem?_eq_getElem (by rw [hxs]; decide)))
  have e2 : (cs.drop 2).take (Try.prog.cellsOf 3) = Flat.enc y2 := h2
  rw [hc2] at e2
  have hc3 : Try.prog.cellsOf 3 = 1 := by kernel_rfl
  obtain ⟨y3, h3, f3⟩ := (dat_int Try.underlying3) ((hg 3 _ rfl).trans (List.getElem?_eq_getElem (by rw [hxs]; decide)))
  have e3 : (cs.drop 3).take (Try.prog.cellsOf 3) = Flat.enc y3 := h3
  rw [hc3] at e3
  have hall := (slice_cat (slice_cat (slice_cat e0 e1) e2) e3)
  rw [List.drop_zero, List.take_of_length_le (Nat.le_of_eq hlen)] at hall
  exact ⟨⟨y0, y1, y2, y3⟩, hall, f0, f1, f2, f3⟩
theorem own_law_Trees : ownKnob Try.prog.godebug = none := by kernel_rfl
set_option maxRecDepth 100000 in
set_option maxHeartbeats 1000000 in
theorem lifted_law_Trees (os : Os) (started : os.Started) (H : Type) (enc : TypeId × Value → H) :
    ReturnsInHanded {} Try.checked os 9 .any (Rows.routeTreesMatchSpecSpec.pre6 enc Try.prog Try.f9 Rows.routeTreesMatchSpecRow.domain false) (Rows.routeTreesMatchSpecSpec.post enc Try.prog Try.f9 false true false false) := by
  refine returnsInHanded_of_change (C := Try.checked) own_law_Trees started (by kernel_rfl) Try.func9
    (ChangeSpec.witness6 (enc := enc) (C := Try.checked) false ⟨#[], #[.agg #[.int .i64 0, .int .i64 0, .int .i64 0, .slice none 0 0], .agg #[.int .i64 0, .int .i64 0, .int .i64 0, .int .i64 0], .slice none 0 0], []⟩ 8 (by kernel_rfl) (by kernel_rfl) (by kernel_rfl) (by kernel_rfl)) ?_
  intro W base args ds gs before hval0 hW hcnd0 _
  clear hcnd0
  have hval : ∀ (j : Nat) t v, Try.f9.params[j]? = some t → args[j]? = some v → Value.okWide Try.prog W .any base t v := hval0
  have hW' := hW
  obtain ⟨p, q, hA0, hV, hpq, hfz, hnd⟩ := hW
  have hA : DataW.TrodAll enc Try.prog W 0 (fun _ => true) true Try.f9.params.toList args.toList ds p := hA0
  have hA1 := hA
  rw [Try.params9] at hA hval
  obtain ⟨v0, vs0, d0, ds0, p0, q0, hargs, rfl, hp0, h0, r0⟩ := trodAll_cons hA
  obtain ⟨v1, vs1, d1, ds1, p1, q1, rfl, rfl, hp1, h1, r1⟩ := trodAll_cons r0
  obtain ⟨v2, vs2, d2, ds2, p2, q2, rfl, rfl, hp2, h2, r2⟩ := trodAll_cons r1
  obtain ⟨rfl, rfl, hq3⟩ := trodAll_nil r2
  obtain rfl : args = #[v0, v1, v2] := by cases args; simp_all
  obtain ⟨rfl, rfl⟩ := trodVars_none hV
  obtain ⟨cs0, rfl, hsz0⟩ := okWide_struct Try.underlying24 (hval 0 24 v0 rfl rfl)
  obtain ⟨fuel0, hf0⟩ := h0
  obtain ⟨y0, ⟨A0_0, C0_0, e0, hv0_0⟩, f0⟩ := dat24 hf0
  obtain rfl := (Array.ext' e0 : cs0 = List.toArray _)
  obtain ⟨cs1, rfl, hsz1⟩ := okWide_struct Try.underlying26 (hval 1 26 v1 rfl rfl)
  obtain ⟨fuel1, hf1⟩ := h1
  obtain ⟨y1, e1, f1⟩ := dat26 hf1
  obtain rfl : cs1 = (Flat.enc y1).toArray := Array.ext' e1
  obtain ⟨a2, l2, c2, rfl⟩ := okWide_slice Try.underlying22 (hval 2 22 v2 rfl rfl)
  obtain ⟨fuel2, hf2⟩ := h2
  obtain ⟨y2, ⟨A2, C2, e2, hv2⟩, f2⟩ := (dat_slice Try.underlying22 (by kernel_rfl) dat28) hf2
  obtain rfl : l2 = y2.length := by have := congrArg (fun l => l[0]?) e2; simp [Value.cells] at this; exact this.2.1
  obtain ⟨rfl, rfl⟩ : a2 = A2 ∧ c2 = C2 := by have := congrArg (fun l => l[0]?) e2; simp [Value.cells] at this; exact this
  refine Calls.mono (R_law_Trees y0 y1 y2 W _ _ (hv0_0.mono (fun b hb => ⟨⟨hb, fun e => e⟩, rfl⟩)) _ _ (hv2.mono (fun b hb => ⟨⟨hb, fun e => e⟩, rfl⟩)) _ (law_trees y0 y1 y2 )) ?_
  rintro e W' ⟨v, rfl, r, rfl, hr, hs⟩
  subst hr
  exact ⟨_, rfl, law_post (tb := 4) (by kernel_rfl) (by rw [Try.params9]; intro t ht; simp only [List.mem_cons, List.not_mem_nil, or_false] at ht; rcases ht with rfl | rfl | rfl <;> exact ⟨by kernel_rfl, by decide⟩) hW' hA1 (by rw [hpq, List.append_nil]) rfl rfl rfl rfl rfl (by kernel_rfl) Try.underlying4 hs⟩
theorem proved_law_Trees : Rows.RouteTreesMatchSpecSaid :=
  OpenClaim.holds_of_wide 9 Try.f9 rfl rfl rfl rfl rfl rfl rfl ⟨rfl, rfl, rfl, rfl, rfl⟩ rfl rfl rfl rfl rfl (by kernel_rfl) Try.func9 (by kernel_rfl)
    (of_decide_eq_true (by kernel_rfl)) (by unfold Func.isWrapper; first | (rw [if_pos (by decide +kernel)]; kernel_rfl) | (rw [if_neg (by decide +kernel)]; exact ⟨rfl, rfl⟩))
    (fun os started H enc _ => lifted_law_Trees os started H enc)
end Go.Proofs.Ytihjaehkdgdenaa
