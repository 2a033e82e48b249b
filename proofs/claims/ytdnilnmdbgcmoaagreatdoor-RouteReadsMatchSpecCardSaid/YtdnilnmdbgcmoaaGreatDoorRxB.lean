/- Chapter texts of ours, as far as the claim needs them. -/
import Derived.Test.YtdnilnmdbgcmoaaGreatDoorRxA
import Derived.Test.YtdnilnmdbgcmoaaGreatDoorRtC
import Derived.Test.YtdnilnmdbgcmoaaGreatDoorTextC
import Derived.Test.YtdnilnmdbgcmoaaGreatDoorBytes
import Derived.Shelf.Strings.Builder2
import Derived.Ground.NamesProg
import Derived.Test.YtdnilnmdbgcmoaaGreatDoorProg
namespace Go.Proofs.YtdnilnmdbgcmoaaGreatDoor
open Go Go.RowKit
set_option linter.unusedVariables false
set_option linter.unusedSectionVars false
set_option linter.unusedSimpArgs false
set_option linter.unusedVariables false
def M_law_RouteReads (text : Str) (Q : Bool → Prop) : Prop :=
  M_route_Read text fun y1 y2 y3 => M_ref7_Read text fun y4 y5 y6 => cnd (y3 == y6) (cnd (y2 == y5) (M_ref7_SameRouted y1 y4 fun y7 => cnd y7 (M_route_awake  fun y8 => Q y8) (Q false)) (Q false)) (Q false)
set_option maxHeartbeats 1000000 in
theorem R_law_RouteReads (text : Str) (w0 : World)  (Q : Bool → Prop) (h : M_law_RouteReads text Q) :
  Ret Tryz.prog 9 #[.string (ba text)] w0 fun v w' => ∃ (r0 : Bool), v = .bool r0 ∧ Q r0 ∧ Sat w0 none_ [] w' := by
 refine fn_enter Tryz.func9 rfl Tryz.ntmps9 rfl (fs := [(0, .string (ba text))]) rfl (fun a hf => ?_)
 have hs := Sat.start w0 none_
 unfold M_law_RouteReads at h
 refine wp_seq (R.list ?_)
 refine S.p hf hs (.bool false) rfl rfl fun a hf => ?_
 refine R.nil (X.then_ (wp_seq (R.list ?_)))
 refine S.p hf hs (.string (ba text)) rfl rfl fun a hf => ?_
 refine S.call hf rfl rfl rfl (call_fn (vs := [.string (ba text)]) rfl rfl rfl Tryz.call32) (R_route_Read text _  _ h) (fun v a w' hf hr => ?_)
 obtain ⟨y1, y1A, y1C, y1as, y2, y3, rfl, h2, hs2⟩ := hr
 replace h := h2; replace hs := hs.call hs2; clear h2 hs2
 refine S.p hf hs (.tuple #[.slice y1A y1.length y1C, iv y2, iv y3]) rfl rfl fun a hf => ?_
 refine S.p hf hs (.slice y1A y1.length y1C) rfl rfl fun a hf => ?_
 refine S.p hf hs (iv y2) rfl rfl fun a hf => ?_
 refine S.p hf hs (iv y3) rfl rfl fun a hf => ?_
 refine S.p hf hs (.slice y1A y1.length y1C) rfl rfl fun a hf => ?_
 refine S.p hf hs (iv y2) rfl rfl fun a hf => ?_
 refine S.p hf hs (iv y3) rfl rfl fun a hf => ?_
 refine R.nil (X.then_ (wp_seq (R.list ?_)))
 refine S.p hf hs (.string (ba text)) rfl rfl fun a hf => ?_
 refine S.call hf rfl rfl rfl (call_fn (vs := [.string (ba text)]) rfl rfl rfl Tryz.call33) (R_ref7_Read text _  _ h) (fun v a w' hf hr => ?_)
 obtain ⟨y4, y4A, y4C, y4as, y5, y6, rfl, h2, hs2⟩ := hr
 replace h := h2; replace hs := hs.call hs2; clear h2 hs2
 refine S.p hf hs (.tuple #[.slice y4A y4.length y4C, iv y5, iv y6]) rfl rfl fun a hf => ?_
 refine S.p hf hs (.slice y4A y4.length y4C) rfl rfl fun a hf => ?_
 refine S.p hf hs (iv y5) rfl rfl fun a hf => ?_
 refine S.p hf hs (iv y6) rfl rfl fun a hf => ?_
 refine S.p hf hs (.slice y4A y4.length y4C) rfl rfl fun a hf => ?_
 refine S.p hf hs (iv y5) rfl rfl fun a hf => ?_
 refine S.p hf hs (iv y6) rfl rfl fun a hf => ?_
 refine R.nil (X.then_ (wp_seq (R.list ?_)))
 refine S.p hf hs (iv y3) rfl rfl fun a hf => ?_
 refine S.p hf hs (iv y6) rfl rfl fun a hf => ?_
 refine S.p hf hs (.bool (y3 == y6)) rfl rfl fun a hf => ?_
 refine S.split hf hs (b := y3 == y6) rfl rfl rfl (V.pure rfl) (fun hc a hf => ?_) (fun hc a hf => ?_)
 ·replace h := h.1 hc
  refine S.p hf hs (iv y2) rfl rfl fun a hf => ?_
  refine S.p hf hs (iv y5) rfl rfl fun a hf => ?_
  refine S.p hf hs (.bool (y2 == y5)) rfl rfl fun a hf => ?_
  refine S.p hf hs (.bool (y2 == y5)) rfl rfl fun a hf => ?_
  refine S.split hf hs (b := y2 == y5) rfl rfl rfl (V.pure rfl) (fun hc a hf => ?_) (fun hc a hf => ?_)
  ·replace h := h.1 hc
   refine S.p hf hs (.slice y1A y1.length y1C) rfl rfl fun a hf => ?_
   refine S.p hf hs (.slice y4A y4.length y4C) rfl rfl fun a hf => ?_
   refine S.call hf rfl rfl rfl (call_fn (vs := [.slice y1A y1.length y1C, .slice y4A y4.length y4C]) rfl rfl rfl Tryz.call34) (R_ref7_SameRouted y1 y4 _ y1A y1C (hs.rowsViewD 1 rfl) y4A y4C (hs.rowsViewD 0 rfl) _ h) (fun v a w' hf hr => ?_)
   obtain ⟨y7, rfl, h2, hs2⟩ := hr
   replace h := h2; replace hs := hs.call hs2; clear h2 hs2
   refine S.p hf hs (.bool y7) rfl rfl fun a hf => ?_
   refine S.split hf hs (b := y7) rfl rfl rfl (V.pure rfl) (fun hc a hf => ?_) (fun hc a hf => ?_)
   ·replace h := h.1 hc
    refine S.call hf rfl rfl rfl (call_fn (vs := []) rfl rfl rfl Tryz.call35) (R_route_awake  _  _ h) (fun v a w' hf hr => ?_)
    obtain ⟨y8, rfl, h2, hs2⟩ := hr
    replace h := h2; replace hs := hs.call hs2; clear h2 hs2
    refine S.p hf hs (.bool y8) rfl rfl fun a hf => ?_
    refine S.p hf hs (.bool y8) rfl rfl fun a hf => ?_
    refine R.nil (X.then_ (wp_ret ?_))
    exact L.ret hf (run_results1 Tryz.results9 (ResIs.tmp hf rfl)) ⟨y8, rfl, h, hs.nil⟩
   ·replace h := h.2 hc
    refine S.k hf rfl fun a hf => ?_
    refine S.p hf hs (.bool false) rfl rfl fun a hf => ?_
    refine S.p hf hs (.bool false) rfl rfl fun a hf => ?_
    refine R.nil (X.then_ (wp_ret ?_))
    exact L.ret hf (run_results1 Tryz.results9 (ResIs.tmp hf rfl)) ⟨false, rfl, h, hs.nil⟩
  ·replace h := h.2 hc
   refine S.k hf rfl fun a hf => ?_
   refine S.k hf rfl fun a hf => ?_
   refine S.k hf rfl fun a hf => ?_
   refine S.p hf hs (.bool false) rfl rfl fun a hf => ?_
   refine S.p hf hs (.bool false) rfl rfl fun a hf => ?_
   refine S.k hf rfl fun a hf => ?_
   refine S.p hf hs (.bool false) rfl rfl fun a hf => ?_
   refine S.p hf hs (.bool false) rfl rfl fun a hf => ?_
   refine R.nil (X.then_ (wp_ret ?_))
   exact L.ret hf (run_results1 Tryz.results9 (ResIs.tmp hf rfl)) ⟨false, rfl, h, hs.nil⟩
 ·replace h := h.2 hc
  refine S.k hf rfl fun a hf => ?_
  refine S.k hf rfl fun a hf => ?_
  refine S.k hf rfl fun a hf => ?_
  refine S.p hf hs (.bool false) rfl rfl fun a hf => ?_
  refine S.p hf hs (.bool false) rfl rfl fun a hf => ?_
  refine S.k hf rfl fun a hf => ?_
  refine S.k hf rfl fun a hf => ?_
  refine S.k hf rfl fun a hf => ?_
  refine S.p hf hs (.bool false) rfl rfl fun a hf => ?_
  refine S.p hf hs (.bool false) rfl rfl fun a hf => ?_
  refine S.k hf rfl fun a hf => ?_
  refine S.p hf hs (.bool false) rfl rfl fun a hf => ?_
  refine S.p hf hs (.bool false) rfl rfl fun a hf => ?_
  refine R.nil (X.then_ (wp_ret ?_))
  exact L.ret hf (run_results1 Tryz.results9 (ResIs.tmp hf rfl)) ⟨false, rfl, h, hs.nil⟩
set_option linter.unusedVariables false
set_option linter.unusedVariables false
set_option linter.unusedVariables false
set_option linter.unusedVariables false
end Go.Proofs.YtdnilnmdbgcmoaaGreatDoor
