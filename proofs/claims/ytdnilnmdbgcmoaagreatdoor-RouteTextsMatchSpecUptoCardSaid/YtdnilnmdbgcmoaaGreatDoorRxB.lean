/- Chapter texts of ours, as far as the claim needs them. -/
import Derived.Test.YtdnilnmdbgcmoaaGreatDoorRxA
import Derived.Test.YtdnilnmdbgcmoaaGreatDoorRtC
import Derived.Test.YtdnilnmdbgcmoaaGreatDoorTextT
import Derived.Shelf.Strings.Builder2
import Derived.Ground.NamesProg
import Derived.Test.YtdnilnmdbgcmoaaGreatDoorProg
namespace Go.Proofs.YtdnilnmdbgcmoaaGreatDoor
open Go Go.RowKit
set_option linter.unusedVariables false
set_option linter.unusedSectionVars false
set_option linter.unusedSimpArgs false
set_option linter.unusedVariables false
set_option linter.unusedVariables false
def M_route_isSide (n : Int) (Q : Bool → Prop) : Prop :=
  Q (within n 0 200)
set_option maxHeartbeats 1000000 in
theorem R_route_isSide (n : Int) (w0 : World)  (Q : Bool → Prop) (h : M_route_isSide n Q) :
  Ret Tryz.prog 75 #[iv n] w0 fun v w' => ∃ (r0 : Bool), v = .bool r0 ∧ Q r0 ∧ Sat w0 none_ [] w' := by
 refine fn_enter Tryz.func75 rfl Tryz.ntmps75 rfl (fs := [(0, iv n)]) rfl (fun a hf => ?_)
 have hs := Sat.start w0 none_
 unfold M_route_isSide at h
 refine wp_seq (R.list ?_)
 refine S.p hf hs (.bool false) rfl rfl fun a hf => ?_
 refine R.nil (X.then_ (wp_seq (R.list ?_)))
 refine S.p hf hs (iv n) rfl rfl fun a hf => ?_
 refine S.callv hf rfl rfl rfl (call_fn (vs := [iv n, iv 0, iv 200]) rfl rfl rfl Tryz.call76) (C_route_within n 0 200 _ ) (fun a w hf hs' => ?_)
 replace hs := hs.call hs'; clear hs'
 refine S.p hf hs (.bool (within n 0 200)) rfl rfl fun a hf => ?_
 refine R.nil (X.then_ (wp_ret ?_))
 exact L.ret hf (run_results1 Tryz.results75 (ResIs.tmp hf rfl)) ⟨(within n 0 200), rfl, h, hs.nil⟩
set_option linter.unusedVariables false
def M_route_Text_k4 (Q : Str → Int → Prop) (xk3 : Cell) (l6 : List UInt8) (b6 : Bool) (next3 : List UInt8 → Bool → Prop) (c1 : Bool) : Prop :=
  cnd c1 (Q [] 3) (must (isI64 xk3.X) (must ([32].length + (itoaS xk3.X).length ≤ 9223372036854775807) (must (([32] ++ (itoaS xk3.X)).length + [44].length ≤ 9223372036854775807) (must (isI64 xk3.Y) (must ((([32] ++ (itoaS xk3.X)) ++ [44]).length + (itoaS xk3.Y).length ≤ 9223372036854775807) (must (((([32] ++ (itoaS xk3.X)) ++ [44]) ++ (itoaS xk3.Y)).length + [44].length ≤ 9223372036854775807) (must (isI64 xk3.Layer) (must ((((([32] ++ (itoaS xk3.X)) ++ [44]) ++ (itoaS xk3.Y)) ++ [44]).length + (itoaS xk3.Layer).length ≤ 9223372036854775807) (M_bld_WriteString (⟨b6, l6⟩ : StringsBuilder) ((((([32] ++ (itoaS xk3.X)) ++ [44]) ++ (itoaS xk3.Y)) ++ [44]) ++ (itoaS xk3.Layer)) fun y9 y10 z4 => next3 z4.buf z4.addr)))))))))
def M_route_Text_L3 (Q : Str → Int → Prop) (k3 : Nat) (xk3 : Cell) (l6 : List UInt8) (b6 : Bool) (next3 : List UInt8 → Bool → Prop) : Prop :=
  M_route_isSide xk3.X fun y11 => cnd (!y11) (M_route_Text_k4 Q xk3 l6 b6 next3 true) (M_route_isSide xk3.Y fun y12 => cnd (!y12) (M_route_Text_k4 Q xk3 l6 b6 next3 true) (M_route_isSide xk3.Layer fun y13 => M_route_Text_k4 Q xk3 l6 b6 next3 (!y13)))
def M_route_Text_L2 (Q : Str → Int → Prop) (k2 : Nat) (xk2 : (List Cell)) (l4 : List UInt8) (b4 : Bool) (next2 : List UInt8 → Bool → Prop) : Prop :=
  cnd ((xk2.length : Int) == 0) (Q [] 3) (M_bld_WriteString (⟨b4, l4⟩ : StringsBuilder) [119, 97, 121] fun y5 y6 z2 => forIn' (fun k x (s : List UInt8 × Bool) next => M_route_Text_L3 Q k x s.1 s.2 (fun l6 b6 => next (l6, b6))) (fun (s : List UInt8 × Bool) => (fun (l6 : List UInt8) (b6 : Bool) => M_bld_WriteString (⟨b6, l6⟩ : StringsBuilder) [10] fun y7 y8 z3 => next2 z3.buf z3.addr) s.1 s.2) xk2 0 (z2.buf, z2.addr))
def M_route_Text_L1 (Q : Str → Int → Prop) (k1 : Nat) (xk1 : Routed) (l2 : List UInt8) (b2 : Bool) (next1 : List UInt8 → Bool → Prop) : Prop :=
  M_route_isRow xk1.Net fun y2 => cnd (!y2) (Q [] 3) (must ([110, 101, 116, 32].length + xk1.Net.length ≤ 9223372036854775807) (must (([110, 101, 116, 32] ++ xk1.Net).length + [10].length ≤ 9223372036854775807) (M_bld_WriteString (⟨b2, l2⟩ : StringsBuilder) (([110, 101, 116, 32] ++ xk1.Net) ++ [10]) fun y3 y4 z1 => forIn' (fun k x (s : List UInt8 × Bool) next => M_route_Text_L2 Q k x s.1 s.2 (fun l4 b4 => next (l4, b4))) (fun (s : List UInt8 × Bool) => (fun (l4 : List UInt8) (b4 : Bool) => next1 l4 b4) s.1 s.2) xk1.Ways 0 (z1.buf, z1.addr))))
def M_route_Text (r : (List Routed)) (Q : Str → Int → Prop) : Prop :=
  forIn' (fun k x (s : List UInt8 × Bool) next => M_route_Text_L1 Q k x s.1 s.2 (fun l2 b2 => next (l2, b2))) (fun (s : List UInt8 × Bool) => (fun (l2 : List UInt8) (b2 : Bool) => M_bld_Len (⟨b2, l2⟩ : StringsBuilder) fun y1 => cnd (decide (y1 > 2000000)) (Q [] 2) (Q l2 0)) s.1 s.2) r 0 (([] : List UInt8), false)
set_option maxHeartbeats 1000000 in
theorem R_route_Text (r : (List Routed)) (w0 : World) (rA : Option Addr) (rC : Nat) (hv_r : View w0 (old w0 none_) rA rC r) (hT : TabIn Tryz.prog w0 (old w0 none_)) (Q : Str → Int → Prop) (h : M_route_Text r Q) :
  Ret Tryz.prog 36 #[.slice rA r.length rC] w0 fun v w' => ∃ (r0 : Str) (r1 : Int), v = .tuple #[.string (ba r0), iv r1] ∧ Q r0 r1 ∧ Sat w0 none_ [] w' := by
 refine fn_enter Tryz.func36 rfl Tryz.ntmps36 rfl (fs := [(0, .slice rA r.length rC)]) rfl (fun a hf => ?_)
 have hs := Sat.start w0 none_
 unfold M_route_Text at h
 refine wp_seq (R.list ?_)
 refine S.p hf hs (.string (ba [])) rfl rfl fun a hf => ?_
 refine S.p hf hs (iv 0) rfl rfl fun a hf => ?_
 refine R.nil (X.then_ (wp_seq (R.list ?_)))
 refine S.alloc hf hs rfl rfl rfl [.pointer none, .slice none 0 0] rfl Tryz.zeroValue101 rfl (fun g1 a w hf hs => ?_)
 refine R.nil (X.then_ (wp_seq (R.list ?_)))
 refine S.p hf hs (.func (.func 75) #[] #[]) rfl rfl fun a hf => ?_
 refine R.nil (X.then_ (wp_seq (wp_seq (R.list ?_))))
 refine S.p hf hs (.slice rA r.length rC) rfl rfl fun a hf => ?_
 refine S.v hf hs (iv (r.length : Int)) rfl (V.len rfl rfl Tryz.runUnderlying62) fun a hf => ?_
 refine S.p hf hs (iv 0) rfl rfl fun a hf => ?_
 refine R.nil (X.then_ (wp_block ?_))
 replace hs := hs.nilOwn (α := UInt8) 5
 replace hs := hs.rebox 1 (vs' := [.pointer (selfp false g1), .slice none ([] : List UInt8).length 0]) rfl rfl
 replace hs := hs.front 1 rfl
 have hlenk1 := hv_r.len64
 refine C.range (fun (ll : List Routed) a w => ∃ (k1 : Nat) (l2 : List UInt8) (l2A : Option Addr) (l2C : Nat) (b2 : Bool), r.drop k1 = ll ∧ k1 + ll.length = r.length ∧ forIn' (fun k x (s : List UInt8 × Bool) next => M_route_Text_L1 Q k x s.1 s.2 (fun l2 b2 => next (l2, b2))) (fun (s : List UInt8 × Bool) => (fun (l2 : List UInt8) (b2 : Bool) => M_bld_Len (⟨b2, l2⟩ : StringsBuilder) fun y1 => cnd (decide (y1 > 2000000)) (Q [] 2) (Q l2 0)) s.1 s.2) ll k1 (l2, b2) ∧ FrOk 85 [(14, iv (k1 : Int)), (4, (pn g1 0)), (5, .func (.func 75) #[] #[]), (12, .slice rA r.length rC), (13, iv (r.length : Int))] a ∧ Sat w0 none_ [hbox g1 101 [.pointer (selfp b2 g1), .slice l2A l2.length l2C], hown 5 l2A l2C l2] w) r ⟨0, ([] : List UInt8), none, 0, false, rfl, Nat.zero_add _, h, (((((hf.nil.cons (hf.get 13 _ rfl)).cons (hf.get 12 _ rfl)).cons (hf.get 5 _ rfl)).cons (hf.get 4 _ rfl)).cons (hf.get 14 _ rfl)), hs⟩ ?_
 clear h hf hs
 rintro llk1 a w ⟨k1, l2, l2A, l2C, b2, hlk1, hkk1, h, hf, hs⟩
 cases llk1 with
 | nil =>
  have hc := range_done hkk1
  replace h : (fun (l2 : List UInt8) (b2 : Bool) => M_bld_Len (⟨b2, l2⟩ : StringsBuilder) fun y1 => cnd (decide (y1 > 2000000)) (Q [] 2) (Q l2 0)) l2 b2 := h
  refine wp_seq (R.list ?_)
  refine S.v hf hs (.bool false) rfl (V.cmp false rfl rfl rfl rfl hc) fun a hf => ?_
  refine R.nil (X.then_ (wp_seq ?_))
  refine C.no hf rfl ?_
  refine wp_exit (X.then_exit (X.then_exit (X.blk_exit (X.then_ (wp_seq (wp_seq (R.list ?_)))))))
  refine S.call hf rfl rfl rfl (call_fn (vs := [(pn g1 0)]) rfl rfl rfl Tryz.call56) (R_bld_Len (⟨b2, l2⟩ : StringsBuilder) _ l2A l2C (hs.ownView 1 rfl) g1 (hs.boxAt 0 rfl) _ h) (fun v a w' hf hr => ?_)
  obtain ⟨y1, rfl, h2, hs2⟩ := hr
  replace h := h2; replace hs := hs.call hs2; clear h2 hs2
  refine S.p hf hs (.bool (decide (y1 > 2000000))) rfl rfl fun a hf => ?_
  refine R.nil (X.then_ ?_)
  refine C.cond hf (b := decide (y1 > 2000000)) rfl (fun hc => ?_) (fun hc => ?_)
  ·replace h := h.1 hc
   refine wp_seq (R.list ?_)
   refine S.p hf hs (.string (ba [])) rfl rfl fun a hf => ?_
   refine S.p hf hs (iv 2) rfl rfl fun a hf => ?_
   refine R.nil (X.then_ (wp_ret (X.then_ret ?_)))
   exact L.ret hf (run_results2 Tryz.results36 (ResIs.tmp hf rfl) (ResIs.tmp hf rfl)) ⟨[], 2, rfl, h, hs.nil⟩
  ·replace h := h.2 hc
   refine wp_skip (X.then_ (wp_seq (R.list ?_)))
   refine S.call hf rfl rfl rfl (call_fn (vs := [(pn g1 0)]) rfl rfl rfl Tryz.call57) (bldString 0 1 hs (g := g1) (f := b2) (A := l2A) (C := l2C) (s := l2) rfl rfl) (fun v a w' hf hr => ?_)
   obtain ⟨rfl, hs2⟩ := hr
   replace hs := hs2; clear hs2
   refine S.p hf hs (.string (ba l2)) rfl rfl fun a hf => ?_
   refine S.p hf hs (iv 0) rfl rfl fun a hf => ?_
   refine R.nil (X.then_ (wp_ret ?_))
   exact L.ret hf (run_results2 Tryz.results36 (ResIs.tmp hf rfl) (ResIs.tmp hf rfl)) ⟨l2, 0, rfl, h, hs.nil⟩
 | cons xk1 llk1 =>
  have hltk1 := range_lt hkk1; have hc := range_go hkk1; have hxk1 := range_get hlk1
  obtain ⟨next1, hnext1⟩ : ∃ X : List UInt8 → Bool → Prop, X = (fun l2 b2 => forIn' (fun k x (s : List UInt8 × Bool) next => M_route_Text_L1 Q k x s.1 s.2 (fun l2 b2 => next (l2, b2))) (fun (s : List UInt8 × Bool) => (fun (l2 : List UInt8) (b2 : Bool) => M_bld_Len (⟨b2, l2⟩ : StringsBuilder) fun y1 => cnd (decide (y1 > 2000000)) (Q [] 2) (Q l2 0)) s.1 s.2) llk1 (k1 + 1) (l2, b2)) := ⟨_, rfl⟩
  replace h : M_route_Text_L1 Q k1 xk1 l2 b2 next1 := by rw [hnext1]; exact h
  unfold M_route_Text_L1 at h
  refine wp_seq (R.list ?_)
  refine S.v hf hs (.bool true) rfl (V.cmp true rfl rfl rfl rfl hc) fun a hf => ?_
  refine R.nil (X.then_ (wp_seq ?_))
  refine C.yes hf rfl ?_
  refine wp_skip (X.then_ (wp_seq (wp_block (wp_seq (R.list ?_)))))
  obtain ⟨cs1, he1, hr1⟩ := hv_r.at_ _ _ hxk1
  obtain ⟨u1A, u1C, rfl, hvu1⟩ := hr1
  refine S.v hf hs (elemPtr rA (k1 * 2)) rfl (V.index rfl rfl rfl Tryz.runUnderlying62 Tryz.sizeOf130 (hv_r.some_ (lt_of_get hxk1)) (Int.natCast_nonneg _) (lt_of_get hxk1) rfl) fun a hf => ?_
  refine S.v hf hs (.agg #[.string (ba xk1.Net), .slice u1A xk1.Ways.length u1C]) rfl (V.loadEl (off := 0) (Ag.args _ _ _) he1 rfl rfl rfl Tryz.isAgg130 Tryz.sizeOf130 rfl rfl) fun a hf => ?_
  refine S.alloc hf hs rfl rfl rfl [.string (ba []), .slice none 0 0] rfl Tryz.zeroValue130 rfl (fun g2 a w hf hs => ?_)
  refine S.storeBox 0 hf hs rfl rfl [.string (ba xk1.Net), .slice u1A xk1.Ways.length u1C] [.string (ba xk1.Net), .slice u1A xk1.Ways.length u1C] rfl rfl rfl rfl rfl Tryz.sizeOf130 rfl rfl rfl rfl (fun a w hf hs => ?_)
  refine R.nil (X.then_ (wp_seq (wp_seq (R.list ?_))))
  refine S.v hf hs ((pn g2 0)) rfl (V.fieldBox rfl rfl Tryz.runUnderlying130 rfl Tryz.sizeOf9 rfl rfl) fun a hf => ?_
  refine S.v hf hs (.string (ba xk1.Net)) rfl (V.loadBox 0 rfl rfl rfl Tryz.isAgg9 Tryz.sizeOf9 rfl rfl) fun a hf => ?_
  refine S.call hf rfl rfl rfl (call_fn (vs := [.string (ba xk1.Net)]) rfl rfl rfl Tryz.call77) (R_route_isRow xk1.Net _  _ h) (fun v a w' hf hr => ?_)
  obtain ⟨y2, rfl, h2, hs2⟩ := hr
  replace h := h2; replace hs := hs.call hs2; clear h2 hs2
  refine S.p hf hs (.bool (!y2)) rfl rfl fun a hf => ?_
  refine R.nil (X.then_ ?_)
  refine C.cond hf (b := !y2) rfl (fun hc => ?_) (fun hc => ?_)
  ·replace h := h.1 hc
   refine wp_seq (R.list ?_)
   refine S.p hf hs (.string (ba [])) rfl rfl fun a hf => ?_
   refine S.p hf hs (iv 3) rfl rfl fun a hf => ?_
   refine R.nil (X.then_ (wp_ret (X.then_ret (X.blk_ret (X.then_ret (X.then_ret (X.blk_ret (X.then_ret ?_))))))))
   exact L.ret hf (run_results2 Tryz.results36 (ResIs.tmp hf rfl) (ResIs.tmp hf rfl)) ⟨[], 3, rfl, h, hs.nil⟩
  ·replace h := h.2 hc
   refine wp_skip (X.then_ (wp_seq (R.list ?_)))
   refine S.v hf hs ((pn g2 0)) rfl (V.fieldBox rfl rfl Tryz.runUnderlying130 rfl Tryz.sizeOf9 rfl rfl) fun a hf => ?_
   refine S.v hf hs (.string (ba xk1.Net)) rfl (V.loadBox 0 rfl rfl rfl Tryz.isAgg9 Tryz.sizeOf9 rfl rfl) fun a hf => ?_
   obtain ⟨hcat, h⟩ := h
   refine S.v hf hs (.string (ba ([110, 101, 116, 32] ++ xk1.Net))) rfl (V.strAdd rfl rfl rfl hcat) fun a hf => ?_
   obtain ⟨hcat, h⟩ := h
   refine S.v hf hs (.string (ba (([110, 101, 116, 32] ++ xk1.Net) ++ [10]))) rfl (V.strAdd rfl rfl rfl hcat) fun a hf => ?_
   replace hs := hs.front 2 rfl
   replace hs := hs.front 2 rfl
   obtain ⟨F1, hsF, hback, hold, hrest⟩ := Sat.callOwns [hbox g1 101 [.pointer (selfp b2 g1), .slice l2A l2.length l2C], hown 5 l2A l2C l2] (σ := [hbox g2 130 [.string (ba xk1.Net), .slice u1A xk1.Ways.length u1C]]) hs
   refine S.call hf rfl rfl rfl (call_fn (vs := [(pn g1 0), .string (ba (([110, 101, 116, 32] ++ xk1.Net) ++ [10]))]) rfl rfl rfl Tryz.call54) (R_bld_WriteString (⟨b2, l2⟩ : StringsBuilder) (([110, 101, 116, 32] ++ xk1.Net) ++ [10]) _ _ g1 l2A l2C hsF _ h) (fun v a w' hf hr => ?_)
   obtain ⟨y3, y4, z1, z1_bufA, z1_bufC, rfl, h2, hs2⟩ := hr
   replace h := h2; replace hs := hback _ _ hs2; clear h2 hs2 hback hold hrest hsF
   refine R.nil (X.then_ (wp_seq (R.list ?_)))
   refine S.v hf hs ((pn g2 1)) rfl (V.fieldBox rfl rfl Tryz.runUnderlying130 rfl Tryz.sizeOf128 rfl rfl) fun a hf => ?_
   refine S.v hf hs (.slice u1A xk1.Ways.length u1C) rfl (V.loadBox 2 rfl rfl rfl Tryz.isAgg128 Tryz.sizeOf128 rfl rfl) fun a hf => ?_
   refine S.v hf hs (iv (xk1.Ways.length : Int)) rfl (V.len rfl rfl Tryz.runUnderlying128) fun a hf => ?_
   refine S.p hf hs (iv 0) rfl rfl fun a hf => ?_
   refine R.nil (X.then_ (wp_block ?_))
   replace hs := hs.front 1 rfl
   replace hs := hs.front 1 rfl
   replace hs := hs.take 2
   have hlenk2 := hvu1.len64
   refine C.range (fun (ll : List (List Cell)) a w => ∃ (k2 : Nat) (l4 : List UInt8) (l4A : Option Addr) (l4C : Nat) (b4 : Bool), xk1.Ways.drop k2 = ll ∧ k2 + ll.length = xk1.Ways.length ∧ forIn' (fun k x (s : List UInt8 × Bool) next => M_route_Text_L2 Q k x s.1 s.2 (fun l4 b4 => next (l4, b4))) (fun (s : List UInt8 × Bool) => (fun (l4 : List UInt8) (b4 : Bool) => next1 l4 b4) s.1 s.2) ll k2 (l4, b4) ∧ FrOk 85 [(30, iv (k2 : Int)), (4, (pn g1 0)), (5, .func (.func 75) #[] #[]), (12, .slice rA r.length rC), (13, iv (r.length : Int)), (14, iv (k1 : Int)), (28, .slice u1A xk1.Ways.length u1C), (29, iv (xk1.Ways.length : Int))] a ∧ Sat w0 none_ [hbox g1 101 [.pointer (selfp b4 g1), .slice l4A l4.length l4C], hown 5 l4A l4C l4] w) xk1.Ways ⟨0, z1.buf, z1_bufA, z1_bufC, z1.addr, rfl, Nat.zero_add _, h, ((((((((hf.nil.cons (hf.get 29 _ rfl)).cons (hf.get 28 _ rfl)).cons (hf.get 14 _ rfl)).cons (hf.get 13 _ rfl)).cons (hf.get 12 _ rfl)).cons (hf.get 5 _ rfl)).cons (hf.get 4 _ rfl)).cons (hf.get 30 _ rfl)), hs⟩ ?_
   clear h hf hs
   rintro llk2 a w ⟨k2, l4, l4A, l4C, b4, hlk2, hkk2, h, hf, hs⟩
   cases llk2 with
   | nil =>
    have hc := range_done hkk2
    replace h : (fun (l4 : List UInt8) (b4 : Bool) => next1 l4 b4) l4 b4 := h
    refine wp_seq (R.list ?_)
    refine S.v hf hs (.bool false) rfl (V.cmp false rfl rfl rfl rfl hc) fun a hf => ?_
    refine R.nil (X.then_ (wp_seq ?_))
    refine C.no hf rfl ?_
    refine wp_exit (X.then_exit (X.then_exit (X.blk_exit (X.blk (X.then_ (R.list ?_))))))
    refine S.v hf hs (iv ((k1 + 1 : Nat) : Int)) rfl (V.incr rfl rfl rfl hltk1 hlenk1) fun a hf => ?_
    refine S.p hf hs (iv ((k1 + 1 : Nat) : Int)) rfl rfl fun a hf => ?_
    refine R.nil (X.then_ ?_)
    exact ⟨xk1, llk1, rfl, k1 + 1, l4, l4A, l4C, b4, range_drop hlk1, range_len hkk1, (by rw [hnext1] at h; exact h), (((((hf.nil.cons (hf.get 13 _ rfl)).cons (hf.get 12 _ rfl)).cons (hf.get 5 _ rfl)).cons (hf.get 4 _ rfl)).cons (hf.get 14 _ rfl)), hs⟩
   | cons xk2 llk2 =>
    have hltk2 := range_lt hkk2; have hc := range_go hkk2; have hxk2 := range_get hlk2
    obtain ⟨next2, hnext2⟩ : ∃ X : List UInt8 → Bool → Prop, X = (fun l4 b4 => forIn' (fun k x (s : List UInt8 × Bool) next => M_route_Text_L2 Q k x s.1 s.2 (fun l4 b4 => next (l4, b4))) (fun (s : List UInt8 × Bool) => (fun (l4 : List UInt8) (b4 : Bool) => next1 l4 b4) s.1 s.2) llk2 (k2 + 1) (l4, b4)) := ⟨_, rfl⟩
    replace h : M_route_Text_L2 Q k2 xk2 l4 b4 next2 := by rw [hnext2]; exact h
    unfold M_route_Text_L2 at h
    refine wp_seq (R.list ?_)
    refine S.v hf hs (.bool true) rfl (V.cmp true rfl rfl rfl rfl hc) fun a hf => ?_
    refine R.nil (X.then_ (wp_seq ?_))
    refine C.yes hf rfl ?_
    refine wp_skip (X.then_ (wp_seq (wp_block (wp_seq (R.list ?_)))))
    obtain ⟨cs2, he2, hr2⟩ := hvu1.at_ _ _ hxk2
    obtain ⟨u2A, u2C, rfl, hvu2⟩ := hr2
    refine S.v hf hs (elemPtr u1A (k2 * 1)) rfl (V.index rfl rfl rfl Tryz.runUnderlying128 Tryz.sizeOf131 (hvu1.some_ (lt_of_get hxk2)) (Int.natCast_nonneg _) (lt_of_get hxk2) rfl) fun a hf => ?_
    refine S.v hf hs (.slice u2A xk2.length u2C) rfl (V.loadEl (off := 0) (Ag.args _ _ _) he2 rfl rfl rfl Tryz.isAgg131 Tryz.sizeOf131 rfl rfl) fun a hf => ?_
    refine S.p hf hs (.slice u2A xk2.length u2C) rfl rfl fun a hf => ?_
    refine R.nil (X.then_ (wp_seq (wp_seq (R.list ?_))))
    refine S.p hf hs (.slice u2A xk2.length u2C) rfl rfl fun a hf => ?_
    refine S.v hf hs (iv (xk2.length : Int)) rfl (V.len rfl rfl Tryz.runUnderlying131) fun a hf => ?_
    refine S.p hf hs (.bool ((xk2.length : Int) == 0)) rfl rfl fun a hf => ?_
    refine R.nil (X.then_ ?_)
    refine C.cond hf (b := (xk2.length : Int) == 0) rfl (fun hc => ?_) (fun hc => ?_)
    ·replace h := h.1 hc
     refine wp_seq (R.list ?_)
     refine S.p hf hs (.string (ba [])) rfl rfl fun a hf => ?_
     refine S.p hf hs (iv 3) rfl rfl fun a hf => ?_
     refine R.nil (X.then_ (wp_ret (X.then_ret (X.blk_ret (X.then_ret (X.then_ret (X.blk_ret (X.blk_ret (X.then_ret (X.then_ret (X.blk_ret (X.then_ret ?_))))))))))))
     exact L.ret hf (run_results2 Tryz.results36 (ResIs.tmp hf rfl) (ResIs.tmp hf rfl)) ⟨[], 3, rfl, h, hs.nil⟩
    ·replace h := h.2 hc
     refine wp_skip (X.then_ (wp_seq (R.list ?_)))
     replace hs := hs.front 1 rfl
     replace hs := hs.front 1 rfl
     obtain ⟨F1, hsF, hback, hold, hrest⟩ := Sat.callOwns [hbox g1 101 [.pointer (selfp b4 g1), .slice l4A l4.length l4C], hown 5 l4A l4C l4] (σ := []) hs
     refine S.call hf rfl rfl rfl (call_fn (vs := [(pn g1 0), .string (ba [119, 97, 121])]) rfl rfl rfl Tryz.call54) (R_bld_WriteString (⟨b4, l4⟩ : StringsBuilder) [119, 97, 121] _ _ g1 l4A l4C hsF _ h) (fun v a w' hf hr => ?_)
     obtain ⟨y5, y6, z2, z2_bufA, z2_bufC, rfl, h2, hs2⟩ := hr
     replace h := h2; replace hs := hback _ _ hs2; clear h2 hs2 hback hold hrest hsF
     refine R.nil (X.then_ (wp_seq (wp_seq (R.list ?_))))
     refine S.p hf hs (.slice u2A xk2.length u2C) rfl rfl fun a hf => ?_
     refine S.v hf hs (iv (xk2.length : Int)) rfl (V.len rfl rfl Tryz.runUnderlying131) fun a hf => ?_
     refine S.p hf hs (iv 0) rfl rfl fun a hf => ?_
     refine R.nil (X.then_ (wp_block ?_))
     have hlenk3 := hvu2.len64
     refine C.range (fun (ll : List Cell) a w => ∃ (k3 : Nat) (l6 : List UInt8) (l6A : Option Addr) (l6C : Nat) (b6 : Bool), xk2.drop k3 = ll ∧ k3 + ll.length = xk2.length ∧ forIn' (fun k x (s : List UInt8 × Bool) next => M_route_Text_L3 Q k x s.1 s.2 (fun l6 b6 => next (l6, b6))) (fun (s : List UInt8 × Bool) => (fun (l6 : List UInt8) (b6 : Bool) => M_bld_WriteString (⟨b6, l6⟩ : StringsBuilder) [10] fun y7 y8 z3 => next2 z3.buf z3.addr) s.1 s.2) ll k3 (l6, b6) ∧ FrOk 85 [(40, iv (k3 : Int)), (4, (pn g1 0)), (5, .func (.func 75) #[] #[]), (12, .slice rA r.length rC), (13, iv (r.length : Int)), (14, iv (k1 : Int)), (28, .slice u1A xk1.Ways.length u1C), (29, iv (xk1.Ways.length : Int)), (30, iv (k2 : Int)), (38, .slice u2A xk2.length u2C), (39, iv (xk2.length : Int))] a ∧ Sat w0 none_ [hbox g1 101 [.pointer (selfp b6 g1), .slice l6A l6.length l6C], hown 5 l6A l6C l6] w) xk2 ⟨0, z2.buf, z2_bufA, z2_bufC, z2.addr, rfl, Nat.zero_add _, h, (((((((((((hf.nil.cons (hf.get 39 _ rfl)).cons (hf.get 38 _ rfl)).cons (hf.get 30 _ rfl)).cons (hf.get 29 _ rfl)).cons (hf.get 28 _ rfl)).cons (hf.get 14 _ rfl)).cons (hf.get 13 _ rfl)).cons (hf.get 12 _ rfl)).cons (hf.get 5 _ rfl)).cons (hf.get 4 _ rfl)).cons (hf.get 40 _ rfl)), hs⟩ ?_
     clear h hf hs
     rintro llk3 a w ⟨k3, l6, l6A, l6C, b6, hlk3, hkk3, h, hf, hs⟩
     cases llk3 with
     | nil =>
      have hc := range_done hkk3
      replace h : (fun (l6 : List UInt8) (b6 : Bool) => M_bld_WriteString (⟨b6, l6⟩ : StringsBuilder) [10] fun y7 y8 z3 => next2 z3.buf z3.addr) l6 b6 := h
      refine wp_seq (R.list ?_)
      refine S.v hf hs (.bool false) rfl (V.cmp false rfl rfl rfl rfl hc) fun a hf => ?_
      refine R.nil (X.then_ (wp_seq ?_))
      refine C.no hf rfl ?_
      refine wp_exit (X.then_exit (X.then_exit (X.blk_exit (X.then_ (R.list ?_)))))
      replace hs := hs.front 1 rfl
      replace hs := hs.front 1 rfl
      obtain ⟨F1, hsF, hback, hold, hrest⟩ := Sat.callOwns [hbox g1 101 [.pointer (selfp b6 g1), .slice l6A l6.length l6C], hown 5 l6A l6C l6] (σ := []) hs
      refine S.call hf rfl rfl rfl (call_fn (vs := [(pn g1 0), .string (ba [10])]) rfl rfl rfl Tryz.call54) (R_bld_WriteString (⟨b6, l6⟩ : StringsBuilder) [10] _ _ g1 l6A l6C hsF _ h) (fun v a w' hf hr => ?_)
      obtain ⟨y7, y8, z3, z3_bufA, z3_bufC, rfl, h2, hs2⟩ := hr
      replace h := h2; replace hs := hback _ _ hs2; clear h2 hs2 hback hold hrest hsF
      refine R.nil (X.blk (X.then_ (R.list ?_)))
      refine S.v hf hs (iv ((k2 + 1 : Nat) : Int)) rfl (V.incr rfl rfl rfl hltk2 hlenk2) fun a hf => ?_
      refine S.p hf hs (iv ((k2 + 1 : Nat) : Int)) rfl rfl fun a hf => ?_
      refine R.nil (X.then_ ?_)
      exact ⟨xk2, llk2, rfl, k2 + 1, z3.buf, z3_bufA, z3_bufC, z3.addr, range_drop hlk2, range_len hkk2, (by rw [hnext2] at h; exact h), ((((((((hf.nil.cons (hf.get 29 _ rfl)).cons (hf.get 28 _ rfl)).cons (hf.get 14 _ rfl)).cons (hf.get 13 _ rfl)).cons (hf.get 12 _ rfl)).cons (hf.get 5 _ rfl)).cons (hf.get 4 _ rfl)).cons (hf.get 30 _ rfl)), hs⟩
     | cons xk3 llk3 =>
      have hltk3 := range_lt hkk3; have hc := range_go hkk3; have hxk3 := range_get hlk3
      obtain ⟨next3, hnext3⟩ : ∃ X : List UInt8 → Bool → Prop, X = (fun l6 b6 => forIn' (fun k x (s : List UInt8 × Bool) next => M_route_Text_L3 Q k x s.1 s.2 (fun l6 b6 => next (l6, b6))) (fun (s : List UInt8 × Bool) => (fun (l6 : List UInt8) (b6 : Bool) => M_bld_WriteString (⟨b6, l6⟩ : StringsBuilder) [10] fun y7 y8 z3 => next2 z3.buf z3.addr) s.1 s.2) llk3 (k3 + 1) (l6, b6)) := ⟨_, rfl⟩
      replace h : M_route_Text_L3 Q k3 xk3 l6 b6 next3 := by rw [hnext3]; exact h
      unfold M_route_Text_L3 at h
      refine wp_seq (R.list ?_)
      refine S.v hf hs (.bool true) rfl (V.cmp true rfl rfl rfl rfl hc) fun a hf => ?_
      refine R.nil (X.then_ (wp_seq ?_))
      refine C.yes hf rfl ?_
      refine wp_skip (X.then_ (wp_seq (wp_block (wp_seq (R.list ?_)))))
      refine S.v hf hs (elemPtr u2A (k3 * 3)) rfl (V.index rfl rfl rfl Tryz.runUnderlying131 Tryz.sizeOf142 (hvu2.some_ (lt_of_get hxk3)) (Int.natCast_nonneg _) (lt_of_get hxk3) rfl) fun a hf => ?_
      refine S.v hf hs (.agg #[iv xk3.X, iv xk3.Y, iv xk3.Layer]) rfl (V.loadEl (off := 0) (Ag.args _ _ _) (hvu2.flat hxk3) rfl rfl rfl Tryz.isAgg142 Tryz.sizeOf142 rfl rfl) fun a hf => ?_
      refine S.alloc hf hs rfl rfl rfl [iv 0, iv 0, iv 0] rfl Tryz.zeroValue142 rfl (fun g3 a w hf hs => ?_)
      refine S.storeBox 0 hf hs rfl rfl [iv xk3.X, iv xk3.Y, iv xk3.Layer] [iv xk3.X, iv xk3.Y, iv xk3.Layer] rfl rfl rfl rfl rfl Tryz.sizeOf142 rfl rfl rfl rfl (fun a w hf hs => ?_)
      refine R.nil (X.then_ (wp_seq (wp_seq ?_)))
      refine C.cut (J := fun a w => ∃ (c1 : Bool), M_route_Text_k4 Q xk3 l6 b6 next3 c1 ∧ FrOk 85 [(4, (pn g1 0)), (5, .func (.func 75) #[] #[]), (11, (pn g3 0)), (12, .slice rA r.length rC), (13, iv (r.length : Int)), (14, iv (k1 : Int)), (28, .slice u1A xk1.Ways.length u1C), (29, iv (xk1.Ways.length : Int)), (30, iv (k2 : Int)), (38, .slice u2A xk2.length u2C), (39, iv (xk2.length : Int)), (40, iv (k3 : Int)), (62, .bool c1)] a ∧ Sat w0 none_ [hbox g3 142 [iv xk3.X, iv xk3.Y, iv xk3.Layer], hbox g1 101 [.pointer (selfp b6 g1), .slice l6A l6.length l6C], hown 5 l6A l6C l6] w) ?_ ?_
      ·rintro a w ⟨c1, h, hf, hs⟩
       unfold M_route_Text_k4 at h
       refine C.cond hf (b := c1) rfl (fun hc => ?_) (fun hc => ?_)
       ·replace h := h.1 hc
        refine wp_seq (R.list ?_)
        refine S.p hf hs (.string (ba [])) rfl rfl fun a hf => ?_
        refine S.p hf hs (iv 3) rfl rfl fun a hf => ?_
        refine R.nil (X.then_ (wp_ret (X.then_ret (X.blk_ret (X.then_ret (X.then_ret (X.blk_ret (X.then_ret (X.blk_ret (X.then_ret (X.then_ret (X.blk_ret (X.blk_ret (X.then_ret (X.then_ret (X.blk_ret (X.then_ret ?_)))))))))))))))))
        exact L.ret hf (run_results2 Tryz.results36 (ResIs.tmp hf rfl) (ResIs.tmp hf rfl)) ⟨[], 3, rfl, h, hs.nil⟩
       ·replace h := h.2 hc
        refine wp_skip (X.then_ ?_)
        refine H.start (S := Sat w0 none_ [hbox g3 142 [iv xk3.X, iv xk3.Y, iv xk3.Layer]]) mo ?_
        replace hs := hs.drew
        refine H.val hf (hs.mask [true, false, false]) (v := (pn g3 0)) (i := 0) rfl rfl rfl rfl (by kernel_rfl) (by kernel_rfl) (by kernel_rfl) (V.fieldBox rfl rfl Tryz.runUnderlying142 rfl Tryz.sizeOf3 rfl rfl) (fun a hf => ?_)
        refine H.val hf (hs.mask [true, false, false]) (v := iv xk3.X) (i := 1) rfl rfl rfl rfl (by kernel_rfl) (by kernel_rfl) (by kernel_rfl) (V.loadBox 0 rfl rfl rfl Tryz.isAgg3 Tryz.sizeOf3 rfl rfl) (fun a hf => ?_)
        refine H.val hf (hs.mask [true, false, false]) (v := (pn g3 1)) (i := 5) rfl rfl rfl rfl (by kernel_rfl) (by kernel_rfl) (by kernel_rfl) (V.fieldBox rfl rfl Tryz.runUnderlying142 rfl Tryz.sizeOf3 rfl rfl) (fun a hf => ?_)
        refine H.val hf (hs.mask [true, false, false]) (v := iv xk3.Y) (i := 6) rfl rfl rfl rfl (by kernel_rfl) (by kernel_rfl) (by kernel_rfl) (V.loadBox 0 rfl rfl rfl Tryz.isAgg3 Tryz.sizeOf3 rfl rfl) (fun a hf => ?_)
        refine H.val hf (hs.mask [true, false, false]) (v := (pn g3 2)) (i := 10) rfl rfl rfl rfl (by kernel_rfl) (by kernel_rfl) (by kernel_rfl) (V.fieldBox rfl rfl Tryz.runUnderlying142 rfl Tryz.sizeOf3 rfl rfl) (fun a hf => ?_)
        refine H.val hf (hs.mask [true, false, false]) (v := iv xk3.Layer) (i := 11) rfl rfl rfl rfl (by kernel_rfl) (by kernel_rfl) (by kernel_rfl) (V.loadBox 0 rfl rfl rfl Tryz.isAgg3 Tryz.sizeOf3 rfl rfl) (fun a hf => ?_)
        refine H.one (i := 2) rfl (by kernel_rfl) ?_
        obtain ⟨hp, h⟩ := h
        refine S.callv hf rfl rfl rfl (call_fn (vs := [iv xk3.X]) rfl rfl rfl Tryz.call55) (C_strconv_Itoa xk3.X _ (hT.arg hs) hp) (fun a w hf hs' => ?_)
        replace hs := hs.call hs'; clear hs'
        refine R.nil (X.then_ ?_)
        refine ⟨(hs.mask [true, false, false]), ?_⟩
        obtain ⟨hcat, h⟩ := h
        refine H.val hf (hs.mask [true, false, false]) (v := .string (ba ([32] ++ (itoaS xk3.X)))) (i := 3) rfl rfl rfl rfl (by kernel_rfl) (by kernel_rfl) (by kernel_rfl) (V.strAdd rfl rfl rfl hcat) (fun a hf => ?_)
        obtain ⟨hcat, h⟩ := h
        refine H.val hf (hs.mask [true, false, false]) (v := .string (ba (([32] ++ (itoaS xk3.X)) ++ [44]))) (i := 4) rfl rfl rfl rfl (by kernel_rfl) (by kernel_rfl) (by kernel_rfl) (V.strAdd rfl rfl rfl hcat) (fun a hf => ?_)
        refine H.one (i := 7) rfl (by kernel_rfl) ?_
        obtain ⟨hp, h⟩ := h
        refine S.callv hf rfl rfl rfl (call_fn (vs := [iv xk3.Y]) rfl rfl rfl Tryz.call55) (C_strconv_Itoa xk3.Y _ (hT.arg hs) hp) (fun a w hf hs' => ?_)
        replace hs := hs.call hs'; clear hs'
        refine R.nil (X.then_ ?_)
        refine ⟨(hs.mask [true, false, false]), ?_⟩
        obtain ⟨hcat, h⟩ := h
        refine H.val hf (hs.mask [true, false, false]) (v := .string (ba ((([32] ++ (itoaS xk3.X)) ++ [44]) ++ (itoaS xk3.Y)))) (i := 8) rfl rfl rfl rfl (by kernel_rfl) (by kernel_rfl) (by kernel_rfl) (V.strAdd rfl rfl rfl hcat) (fun a hf => ?_)
        obtain ⟨hcat, h⟩ := h
        refine H.val hf (hs.mask [true, false, false]) (v := .string (ba (((([32] ++ (itoaS xk3.X)) ++ [44]) ++ (itoaS xk3.Y)) ++ [44]))) (i := 9) rfl rfl rfl rfl (by kernel_rfl) (by kernel_rfl) (by kernel_rfl) (V.strAdd rfl rfl rfl hcat) (fun a hf => ?_)
        refine H.one (i := 12) rfl (by kernel_rfl) ?_
        obtain ⟨hp, h⟩ := h
        refine S.callv hf rfl rfl rfl (call_fn (vs := [iv xk3.Layer]) rfl rfl rfl Tryz.call55) (C_strconv_Itoa xk3.Layer _ (hT.arg hs) hp) (fun a w hf hs' => ?_)
        replace hs := hs.call hs'; clear hs'
        refine R.nil (X.then_ ?_)
        refine ⟨(hs.mask [true, false, false]), ?_⟩
        obtain ⟨hcat, h⟩ := h
        refine H.val hf (hs.mask [true, false, false]) (v := .string (ba ((((([32] ++ (itoaS xk3.X)) ++ [44]) ++ (itoaS xk3.Y)) ++ [44]) ++ (itoaS xk3.Layer)))) (i := 13) rfl rfl rfl rfl (by kernel_rfl) (by kernel_rfl) (by kernel_rfl) (V.strAdd rfl rfl rfl hcat) (fun a hf => ?_)
        refine H.one (i := 14) rfl (by kernel_rfl) ?_
        replace hs := hs.front 2 rfl
        replace hs := hs.front 2 rfl
        obtain ⟨F1, hsF, hback, hold, hrest⟩ := Sat.callOwns [hbox g1 101 [.pointer (selfp b6 g1), .slice l6A l6.length l6C], hown 5 l6A l6C l6] (σ := [hbox g3 142 [iv xk3.X, iv xk3.Y, iv xk3.Layer]]) hs
        refine S.call hf rfl rfl rfl (call_fn (vs := [(pn g1 0), .string (ba ((((([32] ++ (itoaS xk3.X)) ++ [44]) ++ (itoaS xk3.Y)) ++ [44]) ++ (itoaS xk3.Layer)))]) rfl rfl rfl Tryz.call54) (R_bld_WriteString (⟨b6, l6⟩ : StringsBuilder) ((((([32] ++ (itoaS xk3.X)) ++ [44]) ++ (itoaS xk3.Y)) ++ [44]) ++ (itoaS xk3.Layer)) _ _ g1 l6A l6C hsF _ h) (fun v a w' hf hr => ?_)
        obtain ⟨y9, y10, z4, z4_bufA, z4_bufC, rfl, h2, hs2⟩ := hr
        replace h := h2; replace hs := hback _ _ hs2; clear h2 hs2 hback hold hrest hsF
        refine R.nil (X.then_ ?_)
        refine ⟨(hs.mask [false, false, true]), ?_⟩
        refine H.done (by kernel_rfl) ?_
        refine X.blk (X.then_ (R.list ?_))
        refine S.v hf hs (iv ((k3 + 1 : Nat) : Int)) rfl (V.incr rfl rfl rfl hltk3 hlenk3) fun a hf => ?_
        refine S.p hf hs (iv ((k3 + 1 : Nat) : Int)) rfl rfl fun a hf => ?_
        refine R.nil (X.then_ ?_)
        replace hs := hs.front 1 rfl
        replace hs := hs.front 1 rfl
        replace hs := hs.take 2
        exact ⟨xk3, llk3, rfl, k3 + 1, z4.buf, z4_bufA, z4_bufC, z4.addr, range_drop hlk3, range_len hkk3, (by rw [hnext3] at h; exact h), (((((((((((hf.nil.cons (hf.get 39 _ rfl)).cons (hf.get 38 _ rfl)).cons (hf.get 30 _ rfl)).cons (hf.get 29 _ rfl)).cons (hf.get 28 _ rfl)).cons (hf.get 14 _ rfl)).cons (hf.get 13 _ rfl)).cons (hf.get 12 _ rfl)).cons (hf.get 5 _ rfl)).cons (hf.get 4 _ rfl)).cons (hf.get 40 _ rfl)), hs⟩
      ·skip
       refine R.list ?_
       refine S.p hf hs (.func (.func 75) #[] #[]) rfl rfl fun a hf => ?_
       refine S.v hf hs ((pn g3 0)) rfl (V.fieldBox rfl rfl Tryz.runUnderlying142 rfl Tryz.sizeOf3 rfl rfl) fun a hf => ?_
       refine S.v hf hs (iv xk3.X) rfl (V.loadBox 0 rfl rfl rfl Tryz.isAgg3 Tryz.sizeOf3 rfl rfl) fun a hf => ?_
       refine S.call hf rfl rfl rfl (call_fn (vs := [iv xk3.X]) rfl rfl rfl Tryz.call75) (R_route_isSide xk3.X _  _ h) (fun v a w' hf hr => ?_)
       obtain ⟨y11, rfl, h2, hs2⟩ := hr
       replace h := h2; replace hs := hs.call hs2; clear h2 hs2
       refine S.p hf hs (.bool (!y11)) rfl rfl fun a hf => ?_
       refine S.split hf hs (b := !y11) rfl rfl rfl (V.pure rfl) (fun hc a hf => ?_) (fun hc a hf => ?_)
       ·replace h := h.1 hc
        refine S.k hf rfl fun a hf => ?_
        refine S.k hf rfl fun a hf => ?_
        refine S.k hf rfl fun a hf => ?_
        refine S.k hf rfl fun a hf => ?_
        refine S.k hf rfl fun a hf => ?_
        refine S.p hf hs (.bool true) rfl rfl fun a hf => ?_
        refine S.p hf hs (.bool true) rfl rfl fun a hf => ?_
        refine S.k hf rfl fun a hf => ?_
        refine S.k hf rfl fun a hf => ?_
        refine S.k hf rfl fun a hf => ?_
        refine S.k hf rfl fun a hf => ?_
        refine S.k hf rfl fun a hf => ?_
        refine S.p hf hs (.bool true) rfl rfl fun a hf => ?_
        refine R.nil (X.then_ ?_)
        exact ⟨true, h, (((((((((((((hf.nil.cons (hf.get 62 _ rfl)).cons (hf.get 40 _ rfl)).cons (hf.get 39 _ rfl)).cons (hf.get 38 _ rfl)).cons (hf.get 30 _ rfl)).cons (hf.get 29 _ rfl)).cons (hf.get 28 _ rfl)).cons (hf.get 14 _ rfl)).cons (hf.get 13 _ rfl)).cons (hf.get 12 _ rfl)).cons (hf.get 11 _ rfl)).cons (hf.get 5 _ rfl)).cons (hf.get 4 _ rfl)), hs⟩
       ·replace h := h.2 hc
        refine S.p hf hs (.func (.func 75) #[] #[]) rfl rfl fun a hf => ?_
        refine S.v hf hs ((pn g3 1)) rfl (V.fieldBox rfl rfl Tryz.runUnderlying142 rfl Tryz.sizeOf3 rfl rfl) fun a hf => ?_
        refine S.v hf hs (iv xk3.Y) rfl (V.loadBox 0 rfl rfl rfl Tryz.isAgg3 Tryz.sizeOf3 rfl rfl) fun a hf => ?_
        refine S.call hf rfl rfl rfl (call_fn (vs := [iv xk3.Y]) rfl rfl rfl Tryz.call75) (R_route_isSide xk3.Y _  _ h) (fun v a w' hf hr => ?_)
        obtain ⟨y12, rfl, h2, hs2⟩ := hr
        replace h := h2; replace hs := hs.call hs2; clear h2 hs2
        refine S.p hf hs (.bool (!y12)) rfl rfl fun a hf => ?_
        refine S.p hf hs (.bool (!y12)) rfl rfl fun a hf => ?_
        refine S.split hf hs (b := !y12) rfl rfl rfl (V.pure rfl) (fun hc a hf => ?_) (fun hc a hf => ?_)
        ·replace h := h.1 hc
         refine S.k hf rfl fun a hf => ?_
         refine S.k hf rfl fun a hf => ?_
         refine S.k hf rfl fun a hf => ?_
         refine S.k hf rfl fun a hf => ?_
         refine S.k hf rfl fun a hf => ?_
         refine S.p hf hs (.bool true) rfl rfl fun a hf => ?_
         refine R.nil (X.then_ ?_)
         exact ⟨true, h, (((((((((((((hf.nil.cons (hf.get 62 _ rfl)).cons (hf.get 40 _ rfl)).cons (hf.get 39 _ rfl)).cons (hf.get 38 _ rfl)).cons (hf.get 30 _ rfl)).cons (hf.get 29 _ rfl)).cons (hf.get 28 _ rfl)).cons (hf.get 14 _ rfl)).cons (hf.get 13 _ rfl)).cons (hf.get 12 _ rfl)).cons (hf.get 11 _ rfl)).cons (hf.get 5 _ rfl)).cons (hf.get 4 _ rfl)), hs⟩
        ·replace h := h.2 hc
         refine S.p hf hs (.func (.func 75) #[] #[]) rfl rfl fun a hf => ?_
         refine S.v hf hs ((pn g3 2)) rfl (V.fieldBox rfl rfl Tryz.runUnderlying142 rfl Tryz.sizeOf3 rfl rfl) fun a hf => ?_
         refine S.v hf hs (iv xk3.Layer) rfl (V.loadBox 0 rfl rfl rfl Tryz.isAgg3 Tryz.sizeOf3 rfl rfl) fun a hf => ?_
         refine S.call hf rfl rfl rfl (call_fn (vs := [iv xk3.Layer]) rfl rfl rfl Tryz.call75) (R_route_isSide xk3.Layer _  _ h) (fun v a w' hf hr => ?_)
         obtain ⟨y13, rfl, h2, hs2⟩ := hr
         replace h := h2; replace hs := hs.call hs2; clear h2 hs2
         refine S.p hf hs (.bool (!y13)) rfl rfl fun a hf => ?_
         refine S.p hf hs (.bool (!y13)) rfl rfl fun a hf => ?_
         refine R.nil (X.then_ ?_)
         exact ⟨(!y13), h, (((((((((((((hf.nil.cons (hf.get 62 _ rfl)).cons (hf.get 40 _ rfl)).cons (hf.get 39 _ rfl)).cons (hf.get 38 _ rfl)).cons (hf.get 30 _ rfl)).cons (hf.get 29 _ rfl)).cons (hf.get 28 _ rfl)).cons (hf.get 14 _ rfl)).cons (hf.get 13 _ rfl)).cons (hf.get 12 _ rfl)).cons (hf.get 11 _ rfl)).cons (hf.get 5 _ rfl)).cons (hf.get 4 _ rfl)), hs⟩
set_option linter.unusedVariables false
def M_ref7_Text_k4 (Q : Str → Int → Prop) (xk3 : Cell) (s6 : Str) (next3 : Str → Prop) (c1 : Bool) : Prop :=
  cnd c1 (Q [] 3) (must (isI64 xk3.X) (must ([32].length + (itoaS xk3.X).length ≤ 9223372036854775807) (must (([32] ++ (itoaS xk3.X)).length + [44].length ≤ 9223372036854775807) (must (isI64 xk3.Y) (must ((([32] ++ (itoaS xk3.X)) ++ [44]).length + (itoaS xk3.Y).length ≤ 9223372036854775807) (must (((([32] ++ (itoaS xk3.X)) ++ [44]) ++ (itoaS xk3.Y)).length + [44].length ≤ 9223372036854775807) (must (isI64 xk3.Layer) (must ((((([32] ++ (itoaS xk3.X)) ++ [44]) ++ (itoaS xk3.Y)) ++ [44]).length + (itoaS xk3.Layer).length ≤ 9223372036854775807) (must (s6.length + ((((([32] ++ (itoaS xk3.X)) ++ [44]) ++ (itoaS xk3.Y)) ++ [44]) ++ (itoaS xk3.Layer)).length ≤ 9223372036854775807) (next3 (s6 ++ ((((([32] ++ (itoaS xk3.X)) ++ [44]) ++ (itoaS xk3.Y)) ++ [44]) ++ (itoaS xk3.Layer)))))))))))))
def M_ref7_Text_L3 (Q : Str → Int → Prop) (k3 : Nat) (xk3 : Cell) (s6 : Str) (next3 : Str → Prop) : Prop :=
  cnd (!(within xk3.X 0 200)) (M_ref7_Text_k4 Q xk3 s6 next3 true) (cnd (!(within xk3.Y 0 200)) (M_ref7_Text_k4 Q xk3 s6 next3 true) (M_ref7_Text_k4 Q xk3 s6 next3 (!(within xk3.Layer 0 200))))
def M_ref7_Text_L2 (Q : Str → Int → Prop) (k2 : Nat) (xk2 : (List Cell)) (s4 : Str) (next2 : Str → Prop) : Prop :=
  cnd ((xk2.length : Int) == 0) (Q [] 3) (must (s4.length + [119, 97, 121].length ≤ 9223372036854775807) (forIn' (fun k x (s : Str) next => M_ref7_Text_L3 Q k x s (fun s6 => next s6)) (fun (s : Str) => (fun (s6 : Str) => must (s6.length + [10].length ≤ 9223372036854775807) (next2 (s6 ++ [10]))) s) xk2 0 (s4 ++ [119, 97, 121])))
def M_ref7_Text_L1 (Q : Str → Int → Prop) (k1 : Nat) (xk1 : Routed) (s2 : Str) (next1 : Str → Prop) : Prop :=
  M_ref7_isRow xk1.Net fun y1 => cnd (!y1) (Q [] 3) (must ([110, 101, 116, 32].length + xk1.Net.length ≤ 9223372036854775807) (must (([110, 101, 116, 32] ++ xk1.Net).length + [10].length ≤ 9223372036854775807) (must (s2.length + (([110, 101, 116, 32] ++ xk1.Net) ++ [10]).length ≤ 9223372036854775807) (forIn' (fun k x (s : Str) next => M_ref7_Text_L2 Q k x s (fun s4 => next s4)) (fun (s : Str) => (fun (s4 : Str) => next1 s4) s) xk1.Ways 0 (s2 ++ (([110, 101, 116, 32] ++ xk1.Net) ++ [10]))))))
def M_ref7_Text (r : (List Routed)) (Q : Str → Int → Prop) : Prop :=
  forIn' (fun k x (s : Str) next => M_ref7_Text_L1 Q k x s (fun s2 => next s2)) (fun (s : Str) => (fun (s2 : Str) => cnd (decide ((s2.length : Int) > 2000000)) (Q [] 2) (Q s2 0)) s) r 0 []
set_option maxHeartbeats 1000000 in
theorem R_ref7_Text (r : (List Routed)) (w0 : World) (rA : Option Addr) (rC : Nat) (hv_r : View w0 (old w0 none_) rA rC r) (hT : TabIn Tryz.prog w0 (old w0 none_)) (Q : Str → Int → Prop) (h : M_ref7_Text r Q) :
  Ret Tryz.prog 37 #[.slice rA r.length rC] w0 fun v w' => ∃ (r0 : Str) (r1 : Int), v = .tuple #[.string (ba r0), iv r1] ∧ Q r0 r1 ∧ Sat w0 none_ [] w' := by
 refine fn_enter Tryz.func37 rfl Tryz.ntmps37 rfl (fs := [(0, .slice rA r.length rC)]) rfl (fun a hf => ?_)
 have hs := Sat.start w0 none_
 unfold M_ref7_Text at h
 refine wp_seq (R.list ?_)
 refine S.p hf hs (.string (ba [])) rfl rfl fun a hf => ?_
 refine S.p hf hs (iv 0) rfl rfl fun a hf => ?_
 refine R.nil (X.then_ (wp_seq (R.list ?_)))
 refine S.p hf hs (.string (ba [])) rfl rfl fun a hf => ?_
 refine R.nil (X.then_ (wp_seq (wp_seq (R.list ?_))))
 refine S.p hf hs (.slice rA r.length rC) rfl rfl fun a hf => ?_
 refine S.v hf hs (iv (r.length : Int)) rfl (V.len rfl rfl Tryz.runUnderlying62) fun a hf => ?_
 refine S.p hf hs (iv 0) rfl rfl fun a hf => ?_
 refine R.nil (X.then_ (wp_block ?_))
 have hlenk1 := hv_r.len64
 refine C.range (fun (ll : List Routed) a w => ∃ (k1 : Nat) (s2 : Str), r.drop k1 = ll ∧ k1 + ll.length = r.length ∧ forIn' (fun k x (s : Str) next => M_ref7_Text_L1 Q k x s (fun s2 => next s2)) (fun (s : Str) => (fun (s2 : Str) => cnd (decide ((s2.length : Int) > 2000000)) (Q [] 2) (Q s2 0)) s) ll k1 s2 ∧ FrOk 86 [(13, iv (k1 : Int)), (4, .string (ba s2)), (11, .slice rA r.length rC), (12, iv (r.length : Int))] a ∧ Sat w0 none_ [] w) r ⟨0, [], rfl, Nat.zero_add _, h, ((((hf.nil.cons (hf.get 12 _ rfl)).cons (hf.get 11 _ rfl)).cons (hf.get 4 _ rfl)).cons (hf.get 13 _ rfl)), hs⟩ ?_
 clear h hf hs
 rintro llk1 a w ⟨k1, s2, hlk1, hkk1, h, hf, hs⟩
 cases llk1 with
 | nil =>
  have hc := range_done hkk1
  replace h : (fun (s2 : Str) => cnd (decide ((s2.length : Int) > 2000000)) (Q [] 2) (Q s2 0)) s2 := h
  refine wp_seq (R.list ?_)
  refine S.v hf hs (.bool false) rfl (V.cmp false rfl rfl rfl rfl hc) fun a hf => ?_
  refine R.nil (X.then_ (wp_seq ?_))
  refine C.no hf rfl ?_
  refine wp_exit (X.then_exit (X.then_exit (X.blk_exit (X.then_ (wp_seq (wp_seq (R.list ?_)))))))
  refine S.p hf hs (.string (ba s2)) rfl rfl fun a hf => ?_
  refine S.v hf hs (iv (s2.length : Int)) rfl (V.lenStr rfl rfl Tryz.runUnderlying9) fun a hf => ?_
  refine S.p hf hs (.bool (decide ((s2.length : Int) > 2000000))) rfl rfl fun a hf => ?_
  refine R.nil (X.then_ ?_)
  refine C.cond hf (b := decide ((s2.length : Int) > 2000000)) rfl (fun hc => ?_) (fun hc => ?_)
  ·replace h := h.1 hc
   refine wp_seq (R.list ?_)
   refine S.p hf hs (.string (ba [])) rfl rfl fun a hf => ?_
   refine S.p hf hs (iv 2) rfl rfl fun a hf => ?_
   refine R.nil (X.then_ (wp_ret (X.then_ret ?_)))
   exact L.ret hf (run_results2 Tryz.results37 (ResIs.tmp hf rfl) (ResIs.tmp hf rfl)) ⟨[], 2, rfl, h, hs.nil⟩
  ·replace h := h.2 hc
   refine wp_skip (X.then_ (wp_seq (R.list ?_)))
   refine S.p hf hs (.string (ba s2)) rfl rfl fun a hf => ?_
   refine S.p hf hs (.string (ba s2)) rfl rfl fun a hf => ?_
   refine S.p hf hs (iv 0) rfl rfl fun a hf => ?_
   refine R.nil (X.then_ (wp_ret ?_))
   exact L.ret hf (run_results2 Tryz.results37 (ResIs.tmp hf rfl) (ResIs.tmp hf rfl)) ⟨s2, 0, rfl, h, hs.nil⟩
 | cons xk1 llk1 =>
  have hltk1 := range_lt hkk1; have hc := range_go hkk1; have hxk1 := range_get hlk1
  obtain ⟨next1, hnext1⟩ : ∃ X : Str → Prop, X = (fun s2 => forIn' (fun k x (s : Str) next => M_ref7_Text_L1 Q k x s (fun s2 => next s2)) (fun (s : Str) => (fun (s2 : Str) => cnd (decide ((s2.length : Int) > 2000000)) (Q [] 2) (Q s2 0)) s) llk1 (k1 + 1) s2) := ⟨_, rfl⟩
  replace h : M_ref7_Text_L1 Q k1 xk1 s2 next1 := by rw [hnext1]; exact h
  unfold M_ref7_Text_L1 at h
  refine wp_seq (R.list ?_)
  refine S.v hf hs (.bool true) rfl (V.cmp true rfl rfl rfl rfl hc) fun a hf => ?_
  refine R.nil (X.then_ (wp_seq ?_))
  refine C.yes hf rfl ?_
  refine wp_skip (X.then_ (wp_seq (wp_block (wp_seq (R.list ?_)))))
  obtain ⟨cs1, he1, hr1⟩ := hv_r.at_ _ _ hxk1
  obtain ⟨u1A, u1C, rfl, hvu1⟩ := hr1
  refine S.v hf hs (elemPtr rA (k1 * 2)) rfl (V.index rfl rfl rfl Tryz.runUnderlying62 Tryz.sizeOf130 (hv_r.some_ (lt_of_get hxk1)) (Int.natCast_nonneg _) (lt_of_get hxk1) rfl) fun a hf => ?_
  refine S.v hf hs (.agg #[.string (ba xk1.Net), .slice u1A xk1.Ways.length u1C]) rfl (V.loadEl (off := 0) (Ag.args _ _ _) he1 rfl rfl rfl Tryz.isAgg130 Tryz.sizeOf130 rfl rfl) fun a hf => ?_
  refine S.alloc hf hs rfl rfl rfl [.string (ba []), .slice none 0 0] rfl Tryz.zeroValue130 rfl (fun g1 a w hf hs => ?_)
  refine S.storeBox 0 hf hs rfl rfl [.string (ba xk1.Net), .slice u1A xk1.Ways.length u1C] [.string (ba xk1.Net), .slice u1A xk1.Ways.length u1C] rfl rfl rfl rfl rfl Tryz.sizeOf130 rfl rfl rfl rfl (fun a w hf hs => ?_)
  refine R.nil (X.then_ (wp_seq (wp_seq (R.list ?_))))
  refine S.v hf hs ((pn g1 0)) rfl (V.fieldBox rfl rfl Tryz.runUnderlying130 rfl Tryz.sizeOf9 rfl rfl) fun a hf => ?_
  refine S.v hf hs (.string (ba xk1.Net)) rfl (V.loadBox 0 rfl rfl rfl Tryz.isAgg9 Tryz.sizeOf9 rfl rfl) fun a hf => ?_
  refine S.call hf rfl rfl rfl (call_fn (vs := [.string (ba xk1.Net)]) rfl rfl rfl Tryz.call71) (R_ref7_isRow xk1.Net _  _ h) (fun v a w' hf hr => ?_)
  obtain ⟨y1, rfl, h2, hs2⟩ := hr
  replace h := h2; replace hs := hs.call hs2; clear h2 hs2
  refine S.p hf hs (.bool (!y1)) rfl rfl fun a hf => ?_
  refine R.nil (X.then_ ?_)
  refine C.cond hf (b := !y1) rfl (fun hc => ?_) (fun hc => ?_)
  ·replace h := h.1 hc
   refine wp_seq (R.list ?_)
   refine S.p hf hs (.string (ba [])) rfl rfl fun a hf => ?_
   refine S.p hf hs (iv 3) rfl rfl fun a hf => ?_
   refine R.nil (X.then_ (wp_ret (X.then_ret (X.blk_ret (X.then_ret (X.then_ret (X.blk_ret (X.then_ret ?_))))))))
   exact L.ret hf (run_results2 Tryz.results37 (ResIs.tmp hf rfl) (ResIs.tmp hf rfl)) ⟨[], 3, rfl, h, hs.nil⟩
  ·replace h := h.2 hc
   refine wp_skip (X.then_ (wp_seq (R.list ?_)))
   refine S.p hf hs (.string (ba s2)) rfl rfl fun a hf => ?_
   refine S.v hf hs ((pn g1 0)) rfl (V.fieldBox rfl rfl Tryz.runUnderlying130 rfl Tryz.sizeOf9 rfl rfl) fun a hf => ?_
   refine S.v hf hs (.string (ba xk1.Net)) rfl (V.loadBox 0 rfl rfl rfl Tryz.isAgg9 Tryz.sizeOf9 rfl rfl) fun a hf => ?_
   obtain ⟨hcat, h⟩ := h
   refine S.v hf hs (.string (ba ([110, 101, 116, 32] ++ xk1.Net))) rfl (V.strAdd rfl rfl rfl hcat) fun a hf => ?_
   obtain ⟨hcat, h⟩ := h
   refine S.v hf hs (.string (ba (([110, 101, 116, 32] ++ xk1.Net) ++ [10]))) rfl (V.strAdd rfl rfl rfl hcat) fun a hf => ?_
   obtain ⟨hcat, h⟩ := h
   refine S.v hf hs (.string (ba (s2 ++ (([110, 101, 116, 32] ++ xk1.Net) ++ [10])))) rfl (V.strAdd rfl rfl rfl hcat) fun a hf => ?_
   refine S.p hf hs (.string (ba (s2 ++ (([110, 101, 116, 32] ++ xk1.Net) ++ [10])))) rfl rfl fun a hf => ?_
   refine R.nil (X.then_ (wp_seq (R.list ?_)))
   refine S.v hf hs ((pn g1 1)) rfl (V.fieldBox rfl rfl Tryz.runUnderlying130 rfl Tryz.sizeOf128 rfl rfl) fun a hf => ?_
   refine S.v hf hs (.slice u1A xk1.Ways.length u1C) rfl (V.loadBox 0 rfl rfl rfl Tryz.isAgg128 Tryz.sizeOf128 rfl rfl) fun a hf => ?_
   refine S.v hf hs (iv (xk1.Ways.length : Int)) rfl (V.len rfl rfl Tryz.runUnderlying128) fun a hf => ?_
   refine S.p hf hs (iv 0) rfl rfl fun a hf => ?_
   refine R.nil (X.then_ (wp_block ?_))
   have hlenk2 := hvu1.len64
   refine C.range (fun (ll : List (List Cell)) a w => ∃ (k2 : Nat) (s4 : Str), xk1.Ways.drop k2 = ll ∧ k2 + ll.length = xk1.Ways.length ∧ forIn' (fun k x (s : Str) next => M_ref7_Text_L2 Q k x s (fun s4 => next s4)) (fun (s : Str) => (fun (s4 : Str) => next1 s4) s) ll k2 s4 ∧ FrOk 86 [(30, iv (k2 : Int)), (4, .string (ba s4)), (11, .slice rA r.length rC), (12, iv (r.length : Int)), (13, iv (k1 : Int)), (28, .slice u1A xk1.Ways.length u1C), (29, iv (xk1.Ways.length : Int))] a ∧ Sat w0 none_ [hbox g1 130 [.string (ba xk1.Net), .slice u1A xk1.Ways.length u1C]] w) xk1.Ways ⟨0, (s2 ++ (([110, 101, 116, 32] ++ xk1.Net) ++ [10])), rfl, Nat.zero_add _, h, (((((((hf.nil.cons (hf.get 29 _ rfl)).cons (hf.get 28 _ rfl)).cons (hf.get 13 _ rfl)).cons (hf.get 12 _ rfl)).cons (hf.get 11 _ rfl)).cons (hf.get 4 _ rfl)).cons (hf.get 30 _ rfl)), hs⟩ ?_
   clear h hf hs
   rintro llk2 a w ⟨k2, s4, hlk2, hkk2, h, hf, hs⟩
   cases llk2 with
   | nil =>
    have hc := range_done hkk2
    replace h : (fun (s4 : Str) => next1 s4) s4 := h
    refine wp_seq (R.list ?_)
    refine S.v hf hs (.bool false) rfl (V.cmp false rfl rfl rfl rfl hc) fun a hf => ?_
    refine R.nil (X.then_ (wp_seq ?_))
    refine C.no hf rfl ?_
    refine wp_exit (X.then_exit (X.then_exit (X.blk_exit (X.blk (X.then_ (R.list ?_))))))
    refine S.v hf hs (iv ((k1 + 1 : Nat) : Int)) rfl (V.incr rfl rfl rfl hltk1 hlenk1) fun a hf => ?_
    refine S.p hf hs (iv ((k1 + 1 : Nat) : Int)) rfl rfl fun a hf => ?_
    refine R.nil (X.then_ ?_)
    exact ⟨xk1, llk1, rfl, k1 + 1, s4, range_drop hlk1, range_len hkk1, (by rw [hnext1] at h; exact h), ((((hf.nil.cons (hf.get 12 _ rfl)).cons (hf.get 11 _ rfl)).cons (hf.get 4 _ rfl)).cons (hf.get 13 _ rfl)), hs.drop⟩
   | cons xk2 llk2 =>
    have hltk2 := range_lt hkk2; have hc := range_go hkk2; have hxk2 := range_get hlk2
    obtain ⟨next2, hnext2⟩ : ∃ X : Str → Prop, X = (fun s4 => forIn' (fun k x (s : Str) next => M_ref7_Text_L2 Q k x s (fun s4 => next s4)) (fun (s : Str) => (fun (s4 : Str) => next1 s4) s) llk2 (k2 + 1) s4) := ⟨_, rfl⟩
    replace h : M_ref7_Text_L2 Q k2 xk2 s4 next2 := by rw [hnext2]; exact h
    unfold M_ref7_Text_L2 at h
    refine wp_seq (R.list ?_)
    refine S.v hf hs (.bool true) rfl (V.cmp true rfl rfl rfl rfl hc) fun a hf => ?_
    refine R.nil (X.then_ (wp_seq ?_))
    refine C.yes hf rfl ?_
    refine wp_skip (X.then_ (wp_seq (wp_block (wp_seq (R.list ?_)))))
    obtain ⟨cs2, he2, hr2⟩ := hvu1.at_ _ _ hxk2
    obtain ⟨u2A, u2C, rfl, hvu2⟩ := hr2
    refine S.v hf hs (elemPtr u1A (k2 * 1)) rfl (V.index rfl rfl rfl Tryz.runUnderlying128 Tryz.sizeOf131 (hvu1.some_ (lt_of_get hxk2)) (Int.natCast_nonneg _) (lt_of_get hxk2) rfl) fun a hf => ?_
    refine S.v hf hs (.slice u2A xk2.length u2C) rfl (V.loadEl (off := 0) (Ag.args _ _ _) he2 rfl rfl rfl Tryz.isAgg131 Tryz.sizeOf131 rfl rfl) fun a hf => ?_
    refine S.p hf hs (.slice u2A xk2.length u2C) rfl rfl fun a hf => ?_
    refine R.nil (X.then_ (wp_seq (wp_seq (R.list ?_))))
    refine S.p hf hs (.slice u2A xk2.length u2C) rfl rfl fun a hf => ?_
    refine S.v hf hs (iv (xk2.length : Int)) rfl (V.len rfl rfl Tryz.runUnderlying131) fun a hf => ?_
    refine S.p hf hs (.bool ((xk2.length : Int) == 0)) rfl rfl fun a hf => ?_
    refine R.nil (X.then_ ?_)
    refine C.cond hf (b := (xk2.length : Int) == 0) rfl (fun hc => ?_) (fun hc => ?_)
    ·replace h := h.1 hc
     refine wp_seq (R.list ?_)
     refine S.p hf hs (.string (ba [])) rfl rfl fun a hf => ?_
     refine S.p hf hs (iv 3) rfl rfl fun a hf => ?_
     refine R.nil (X.then_ (wp_ret (X.then_ret (X.blk_ret (X.then_ret (X.then_ret (X.blk_ret (X.blk_ret (X.then_ret (X.then_ret (X.blk_ret (X.then_ret ?_))))))))))))
     exact L.ret hf (run_results2 Tryz.results37 (ResIs.tmp hf rfl) (ResIs.tmp hf rfl)) ⟨[], 3, rfl, h, hs.nil⟩
    ·replace h := h.2 hc
     refine wp_skip (X.then_ (wp_seq (R.list ?_)))
     refine S.p hf hs (.string (ba s4)) rfl rfl fun a hf => ?_
     obtain ⟨hcat, h⟩ := h
     refine S.v hf hs (.string (ba (s4 ++ [119, 97, 121]))) rfl (V.strAdd rfl rfl rfl hcat) fun a hf => ?_
     refine S.p hf hs (.string (ba (s4 ++ [119, 97, 121]))) rfl rfl fun a hf => ?_
     refine R.nil (X.then_ (wp_seq (wp_seq (R.list ?_))))
     refine S.p hf hs (.slice u2A xk2.length u2C) rfl rfl fun a hf => ?_
     refine S.v hf hs (iv (xk2.length : Int)) rfl (V.len rfl rfl Tryz.runUnderlying131) fun a hf => ?_
     refine S.p hf hs (iv 0) rfl rfl fun a hf => ?_
     refine R.nil (X.then_ (wp_block ?_))
     have hlenk3 := hvu2.len64
     refine C.range (fun (ll : List Cell) a w => ∃ (k3 : Nat) (s6 : Str), xk2.drop k3 = ll ∧ k3 + ll.length = xk2.length ∧ forIn' (fun k x (s : Str) next => M_ref7_Text_L3 Q k x s (fun s6 => next s6)) (fun (s : Str) => (fun (s6 : Str) => must (s6.length + [10].length ≤ 9223372036854775807) (next2 (s6 ++ [10]))) s) ll k3 s6 ∧ FrOk 86 [(41, iv (k3 : Int)), (4, .string (ba s6)), (11, .slice rA r.length rC), (12, iv (r.length : Int)), (13, iv (k1 : Int)), (28, .slice u1A xk1.Ways.length u1C), (29, iv (xk1.Ways.length : Int)), (30, iv (k2 : Int)), (39, .slice u2A xk2.length u2C), (40, iv (xk2.length : Int))] a ∧ Sat w0 none_ [hbox g1 130 [.string (ba xk1.Net), .slice u1A xk1.Ways.length u1C]] w) xk2 ⟨0, (s4 ++ [119, 97, 121]), rfl, Nat.zero_add _, h, ((((((((((hf.nil.cons (hf.get 40 _ rfl)).cons (hf.get 39 _ rfl)).cons (hf.get 30 _ rfl)).cons (hf.get 29 _ rfl)).cons (hf.get 28 _ rfl)).cons (hf.get 13 _ rfl)).cons (hf.get 12 _ rfl)).cons (hf.get 11 _ rfl)).cons (hf.get 4 _ rfl)).cons (hf.get 41 _ rfl)), hs⟩ ?_
     clear h hf hs
     rintro llk3 a w ⟨k3, s6, hlk3, hkk3, h, hf, hs⟩
     cases llk3 with
     | nil =>
      have hc := range_done hkk3
      replace h : (fun (s6 : Str) => must (s6.length + [10].length ≤ 9223372036854775807) (next2 (s6 ++ [10]))) s6 := h
      refine wp_seq (R.list ?_)
      refine S.v hf hs (.bool false) rfl (V.cmp false rfl rfl rfl rfl hc) fun a hf => ?_
      refine R.nil (X.then_ (wp_seq ?_))
      refine C.no hf rfl ?_
      refine wp_exit (X.then_exit (X.then_exit (X.blk_exit (X.then_ (R.list ?_)))))
      refine S.p hf hs (.string (ba s6)) rfl rfl fun a hf => ?_
      obtain ⟨hcat, h⟩ := h
      refine S.v hf hs (.string (ba (s6 ++ [10]))) rfl (V.strAdd rfl rfl rfl hcat) fun a hf => ?_
      refine S.p hf hs (.string (ba (s6 ++ [10]))) rfl rfl fun a hf => ?_
      refine R.nil (X.blk (X.then_ (R.list ?_)))
      refine S.v hf hs (iv ((k2 + 1 : Nat) : Int)) rfl (V.incr rfl rfl rfl hltk2 hlenk2) fun a hf => ?_
      refine S.p hf hs (iv ((k2 + 1 : Nat) : Int)) rfl rfl fun a hf => ?_
      refine R.nil (X.then_ ?_)
      exact ⟨xk2, llk2, rfl, k2 + 1, (s6 ++ [10]), range_drop hlk2, range_len hkk2, (by rw [hnext2] at h; exact h), (((((((hf.nil.cons (hf.get 29 _ rfl)).cons (hf.get 28 _ rfl)).cons (hf.get 13 _ rfl)).cons (hf.get 12 _ rfl)).cons (hf.get 11 _ rfl)).cons (hf.get 4 _ rfl)).cons (hf.get 30 _ rfl)), hs⟩
     | cons xk3 llk3 =>
      have hltk3 := range_lt hkk3; have hc := range_go hkk3; have hxk3 := range_get hlk3
      obtain ⟨next3, hnext3⟩ : ∃ X : Str → Prop, X = (fun s6 => forIn' (fun k x (s : Str) next => M_ref7_Text_L3 Q k x s (fun s6 => next s6)) (fun (s : Str) => (fun (s6 : Str) => must (s6.length + [10].length ≤ 9223372036854775807) (next2 (s6 ++ [10]))) s) llk3 (k3 + 1) s6) := ⟨_, rfl⟩
      replace h : M_ref7_Text_L3 Q k3 xk3 s6 next3 := by rw [hnext3]; exact h
      unfold M_ref7_Text_L3 at h
      refine wp_seq (R.list ?_)
      refine S.v hf hs (.bool true) rfl (V.cmp true rfl rfl rfl rfl hc) fun a hf => ?_
      refine R.nil (X.then_ (wp_seq ?_))
      refine C.yes hf rfl ?_
      refine wp_skip (X.then_ (wp_seq (wp_block (wp_seq (R.list ?_)))))
      refine S.v hf hs (elemPtr u2A (k3 * 3)) rfl (V.index rfl rfl rfl Tryz.runUnderlying131 Tryz.sizeOf142 (hvu2.some_ (lt_of_get hxk3)) (Int.natCast_nonneg _) (lt_of_get hxk3) rfl) fun a hf => ?_
      refine S.v hf hs (.agg #[iv xk3.X, iv xk3.Y, iv xk3.Layer]) rfl (V.loadEl (off := 0) (Ag.args _ _ _) (hvu2.flat hxk3) rfl rfl rfl Tryz.isAgg142 Tryz.sizeOf142 rfl rfl) fun a hf => ?_
      refine S.alloc hf hs rfl rfl rfl [iv 0, iv 0, iv 0] rfl Tryz.zeroValue142 rfl (fun g2 a w hf hs => ?_)
      refine S.storeBox 0 hf hs rfl rfl [iv xk3.X, iv xk3.Y, iv xk3.Layer] [iv xk3.X, iv xk3.Y, iv xk3.Layer] rfl rfl rfl rfl rfl Tryz.sizeOf142 rfl rfl rfl rfl (fun a w hf hs => ?_)
      refine R.nil (X.then_ (wp_seq (wp_seq ?_)))
      refine C.cut (J := fun a w => ∃ (c1 : Bool), M_ref7_Text_k4 Q xk3 s6 next3 c1 ∧ FrOk 86 [(4, .string (ba s6)), (10, (pn g2 0)), (11, .slice rA r.length rC), (12, iv (r.length : Int)), (13, iv (k1 : Int)), (28, .slice u1A xk1.Ways.length u1C), (29, iv (xk1.Ways.length : Int)), (30, iv (k2 : Int)), (39, .slice u2A xk2.length u2C), (40, iv (xk2.length : Int)), (41, iv (k3 : Int)), (60, .bool c1)] a ∧ Sat w0 none_ [hbox g2 142 [iv xk3.X, iv xk3.Y, iv xk3.Layer], hbox g1 130 [.string (ba xk1.Net), .slice u1A xk1.Ways.length u1C]] w) ?_ ?_
      ·rintro a w ⟨c1, h, hf, hs⟩
       unfold M_ref7_Text_k4 at h
       refine C.cond hf (b := c1) rfl (fun hc => ?_) (fun hc => ?_)
       ·replace h := h.1 hc
        refine wp_seq (R.list ?_)
        refine S.p hf hs (.string (ba [])) rfl rfl fun a hf => ?_
        refine S.p hf hs (iv 3) rfl rfl fun a hf => ?_
        refine R.nil (X.then_ (wp_ret (X.then_ret (X.blk_ret (X.then_ret (X.then_ret (X.blk_ret (X.then_ret (X.blk_ret (X.then_ret (X.then_ret (X.blk_ret (X.blk_ret (X.then_ret (X.then_ret (X.blk_ret (X.then_ret ?_)))))))))))))))))
        exact L.ret hf (run_results2 Tryz.results37 (ResIs.tmp hf rfl) (ResIs.tmp hf rfl)) ⟨[], 3, rfl, h, hs.nil⟩
       ·replace h := h.2 hc
        refine wp_skip (X.then_ ?_)
        refine R.draw mo (by kernel_rfl) hs ?_
        refine D.p hf (.string (ba s6)) rfl rfl fun a hf => ?_
        refine D.v hf ((pn g2 0)) rfl (V.fieldBox rfl rfl Tryz.runUnderlying142 rfl Tryz.sizeOf3 rfl rfl) fun a hf => ?_
        refine D.v hf (iv xk3.X) rfl (V.loadBox 0 rfl rfl rfl Tryz.isAgg3 Tryz.sizeOf3 rfl rfl) fun a hf => ?_
        obtain ⟨hp, h⟩ := h
        refine D.call hf (v := .string (ba (itoaS xk3.X))) rfl rfl rfl (call_fn (vs := [iv xk3.X]) rfl rfl rfl Tryz.call55) (fun w hs => Ret.quiet hs (C_strconv_Itoa xk3.X w (hT.arg hs) hp)) (fun a hf => ?_)
        obtain ⟨hcat, h⟩ := h
        refine D.v hf (.string (ba ([32] ++ (itoaS xk3.X)))) rfl (V.strAdd rfl rfl rfl hcat) fun a hf => ?_
        obtain ⟨hcat, h⟩ := h
        refine D.v hf (.string (ba (([32] ++ (itoaS xk3.X)) ++ [44]))) rfl (V.strAdd rfl rfl rfl hcat) fun a hf => ?_
        refine D.v hf ((pn g2 1)) rfl (V.fieldBox rfl rfl Tryz.runUnderlying142 rfl Tryz.sizeOf3 rfl rfl) fun a hf => ?_
        refine D.v hf (iv xk3.Y) rfl (V.loadBox 0 rfl rfl rfl Tryz.isAgg3 Tryz.sizeOf3 rfl rfl) fun a hf => ?_
        obtain ⟨hp, h⟩ := h
        refine D.call hf (v := .string (ba (itoaS xk3.Y))) rfl rfl rfl (call_fn (vs := [iv xk3.Y]) rfl rfl rfl Tryz.call55) (fun w hs => Ret.quiet hs (C_strconv_Itoa xk3.Y w (hT.arg hs) hp)) (fun a hf => ?_)
        obtain ⟨hcat, h⟩ := h
        refine D.v hf (.string (ba ((([32] ++ (itoaS xk3.X)) ++ [44]) ++ (itoaS xk3.Y)))) rfl (V.strAdd rfl rfl rfl hcat) fun a hf => ?_
        obtain ⟨hcat, h⟩ := h
        refine D.v hf (.string (ba (((([32] ++ (itoaS xk3.X)) ++ [44]) ++ (itoaS xk3.Y)) ++ [44]))) rfl (V.strAdd rfl rfl rfl hcat) fun a hf => ?_
        refine D.v hf ((pn g2 2)) rfl (V.fieldBox rfl rfl Tryz.runUnderlying142 rfl Tryz.sizeOf3 rfl rfl) fun a hf => ?_
        refine D.v hf (iv xk3.Layer) rfl (V.loadBox 0 rfl rfl rfl Tryz.isAgg3 Tryz.sizeOf3 rfl rfl) fun a hf => ?_
        obtain ⟨hp, h⟩ := h
        refine D.call hf (v := .string (ba (itoaS xk3.Layer))) rfl rfl rfl (call_fn (vs := [iv xk3.Layer]) rfl rfl rfl Tryz.call55) (fun w hs => Ret.quiet hs (C_strconv_Itoa xk3.Layer w (hT.arg hs) hp)) (fun a hf => ?_)
        obtain ⟨hcat, h⟩ := h
        refine D.v hf (.string (ba ((((([32] ++ (itoaS xk3.X)) ++ [44]) ++ (itoaS xk3.Y)) ++ [44]) ++ (itoaS xk3.Layer)))) rfl (V.strAdd rfl rfl rfl hcat) fun a hf => ?_
        obtain ⟨hcat, h⟩ := h
        refine D.v hf (.string (ba (s6 ++ ((((([32] ++ (itoaS xk3.X)) ++ [44]) ++ (itoaS xk3.Y)) ++ [44]) ++ (itoaS xk3.Layer))))) rfl (V.strAdd rfl rfl rfl hcat) fun a hf => ?_
        refine D.p hf (.string (ba (s6 ++ ((((([32] ++ (itoaS xk3.X)) ++ [44]) ++ (itoaS xk3.Y)) ++ [44]) ++ (itoaS xk3.Layer))))) rfl rfl fun a hf => ?_
        refine D.done (fun w hs => ?_)
        refine X.blk (X.then_ (R.list ?_))
        refine S.v hf hs (iv ((k3 + 1 : Nat) : Int)) rfl (V.incr rfl rfl rfl hltk3 hlenk3) fun a hf => ?_
        refine S.p hf hs (iv ((k3 + 1 : Nat) : Int)) rfl rfl fun a hf => ?_
        refine R.nil (X.then_ ?_)
        exact ⟨xk3, llk3, rfl, k3 + 1, (s6 ++ ((((([32] ++ (itoaS xk3.X)) ++ [44]) ++ (itoaS xk3.Y)) ++ [44]) ++ (itoaS xk3.Layer))), range_drop hlk3, range_len hkk3, (by rw [hnext3] at h; exact h), ((((((((((hf.nil.cons (hf.get 40 _ rfl)).cons (hf.get 39 _ rfl)).cons (hf.get 30 _ rfl)).cons (hf.get 29 _ rfl)).cons (hf.get 28 _ rfl)).cons (hf.get 13 _ rfl)).cons (hf.get 12 _ rfl)).cons (hf.get 11 _ rfl)).cons (hf.get 4 _ rfl)).cons (hf.get 41 _ rfl)), hs.drop⟩
      ·skip
       refine R.list ?_
       refine S.v hf hs ((pn g2 0)) rfl (V.fieldBox rfl rfl Tryz.runUnderlying142 rfl Tryz.sizeOf3 rfl rfl) fun a hf => ?_
       refine S.v hf hs (iv xk3.X) rfl (V.loadBox 0 rfl rfl rfl Tryz.isAgg3 Tryz.sizeOf3 rfl rfl) fun a hf => ?_
       refine S.callv hf rfl rfl rfl (call_fn (vs := [iv xk3.X, iv 0, iv 200]) rfl rfl rfl Tryz.call78) (C_ref7_within xk3.X 0 200 _ ) (fun a w hf hs' => ?_)
       replace hs := hs.call hs'; clear hs'
       refine S.p hf hs (.bool (!(within xk3.X 0 200))) rfl rfl fun a hf => ?_
       refine S.split hf hs (b := !(within xk3.X 0 200)) rfl rfl rfl (V.pure rfl) (fun hc a hf => ?_) (fun hc a hf => ?_)
       ·replace h := h.1 hc
        refine S.k hf rfl fun a hf => ?_
        refine S.k hf rfl fun a hf => ?_
        refine S.k hf rfl fun a hf => ?_
        refine S.k hf rfl fun a hf => ?_
        refine S.p hf hs (.bool true) rfl rfl fun a hf => ?_
        refine S.p hf hs (.bool true) rfl rfl fun a hf => ?_
        refine S.k hf rfl fun a hf => ?_
        refine S.k hf rfl fun a hf => ?_
        refine S.k hf rfl fun a hf => ?_
        refine S.k hf rfl fun a hf => ?_
        refine S.p hf hs (.bool true) rfl rfl fun a hf => ?_
        refine R.nil (X.then_ ?_)
        exact ⟨true, h, ((((((((((((hf.nil.cons (hf.get 60 _ rfl)).cons (hf.get 41 _ rfl)).cons (hf.get 40 _ rfl)).cons (hf.get 39 _ rfl)).cons (hf.get 30 _ rfl)).cons (hf.get 29 _ rfl)).cons (hf.get 28 _ rfl)).cons (hf.get 13 _ rfl)).cons (hf.get 12 _ rfl)).cons (hf.get 11 _ rfl)).cons (hf.get 10 _ rfl)).cons (hf.get 4 _ rfl)), hs⟩
       ·replace h := h.2 hc
        refine S.v hf hs ((pn g2 1)) rfl (V.fieldBox rfl rfl Tryz.runUnderlying142 rfl Tryz.sizeOf3 rfl rfl) fun a hf => ?_
        refine S.v hf hs (iv xk3.Y) rfl (V.loadBox 0 rfl rfl rfl Tryz.isAgg3 Tryz.sizeOf3 rfl rfl) fun a hf => ?_
        refine S.callv hf rfl rfl rfl (call_fn (vs := [iv xk3.Y, iv 0, iv 200]) rfl rfl rfl Tryz.call78) (C_ref7_within xk3.Y 0 200 _ ) (fun a w hf hs' => ?_)
        replace hs := hs.call hs'; clear hs'
        refine S.p hf hs (.bool (!(within xk3.Y 0 200))) rfl rfl fun a hf => ?_
        refine S.p hf hs (.bool (!(within xk3.Y 0 200))) rfl rfl fun a hf => ?_
        refine S.split hf hs (b := !(within xk3.Y 0 200)) rfl rfl rfl (V.pure rfl) (fun hc a hf => ?_) (fun hc a hf => ?_)
        ·replace h := h.1 hc
         refine S.k hf rfl fun a hf => ?_
         refine S.k hf rfl fun a hf => ?_
         refine S.k hf rfl fun a hf => ?_
         refine S.k hf rfl fun a hf => ?_
         refine S.p hf hs (.bool true) rfl rfl fun a hf => ?_
         refine R.nil (X.then_ ?_)
         exact ⟨true, h, ((((((((((((hf.nil.cons (hf.get 60 _ rfl)).cons (hf.get 41 _ rfl)).cons (hf.get 40 _ rfl)).cons (hf.get 39 _ rfl)).cons (hf.get 30 _ rfl)).cons (hf.get 29 _ rfl)).cons (hf.get 28 _ rfl)).cons (hf.get 13 _ rfl)).cons (hf.get 12 _ rfl)).cons (hf.get 11 _ rfl)).cons (hf.get 10 _ rfl)).cons (hf.get 4 _ rfl)), hs⟩
        ·replace h := h.2 hc
         refine S.v hf hs ((pn g2 2)) rfl (V.fieldBox rfl rfl Tryz.runUnderlying142 rfl Tryz.sizeOf3 rfl rfl) fun a hf => ?_
         refine S.v hf hs (iv xk3.Layer) rfl (V.loadBox 0 rfl rfl rfl Tryz.isAgg3 Tryz.sizeOf3 rfl rfl) fun a hf => ?_
         refine S.callv hf rfl rfl rfl (call_fn (vs := [iv xk3.Layer, iv 0, iv 200]) rfl rfl rfl Tryz.call78) (C_ref7_within xk3.Layer 0 200 _ ) (fun a w hf hs' => ?_)
         replace hs := hs.call hs'; clear hs'
         refine S.p hf hs (.bool (!(within xk3.Layer 0 200))) rfl rfl fun a hf => ?_
         refine S.p hf hs (.bool (!(within xk3.Layer 0 200))) rfl rfl fun a hf => ?_
         refine R.nil (X.then_ ?_)
         exact ⟨(!(within xk3.Layer 0 200)), h, ((((((((((((hf.nil.cons (hf.get 60 _ rfl)).cons (hf.get 41 _ rfl)).cons (hf.get 40 _ rfl)).cons (hf.get 39 _ rfl)).cons (hf.get 30 _ rfl)).cons (hf.get 29 _ rfl)).cons (hf.get 28 _ rfl)).cons (hf.get 13 _ rfl)).cons (hf.get 12 _ rfl)).cons (hf.get 11 _ rfl)).cons (hf.get 10 _ rfl)).cons (hf.get 4 _ rfl)), hs⟩
set_option linter.unusedVariables false
def M_law_RouteTexts_k1 (r : (List Routed)) (Q : Bool → Prop) (y1 : Str) (y2 : Int) (c1 : Bool) : Prop :=
  cnd c1 (Q false) (cnd (y2 != 0) (Q true) (M_route_Read y1 fun y5 y6 y7 => cnd (y7 == 0) (cnd (y6 == 0) (M_ref7_SameRouted r y5 fun y8 => Q y8) (Q false)) (Q false)))
def M_law_RouteTexts (r : (List Routed)) (Q : Bool → Prop) : Prop :=
  M_route_Text r fun y1 y2 => M_ref7_Text r fun y3 y4 => cnd (y2 != y4) (M_law_RouteTexts_k1 r Q y1 y2 true) (cnd (!(y1 == y3)) (M_law_RouteTexts_k1 r Q y1 y2 true) (M_route_awake  fun y9 => M_law_RouteTexts_k1 r Q y1 y2 (!y9)))
set_option maxHeartbeats 1000000 in
theorem R_law_RouteTexts (r : (List Routed)) (w0 : World) (rA : Option Addr) (rC : Nat) (hv_r : View w0 (old w0 none_) rA rC r) (hT : TabIn Tryz.prog w0 (old w0 none_)) (Q : Bool → Prop) (h : M_law_RouteTexts r Q) :
  Ret Tryz.prog 10 #[.slice rA r.length rC] w0 fun v w' => ∃ (r0 : Bool), v = .bool r0 ∧ Q r0 ∧ Sat w0 none_ [] w' := by
 refine fn_enter Tryz.func10 rfl Tryz.ntmps10 rfl (fs := [(0, .slice rA r.length rC)]) rfl (fun a hf => ?_)
 have hs := Sat.start w0 none_
 unfold M_law_RouteTexts at h
 refine wp_seq (R.list ?_)
 refine S.p hf hs (.bool false) rfl rfl fun a hf => ?_
 refine R.nil (X.then_ (wp_seq (R.list ?_)))
 refine S.p hf hs (.slice rA r.length rC) rfl rfl fun a hf => ?_
 refine S.call hf rfl rfl rfl (call_fn (vs := [.slice rA r.length rC]) rfl rfl rfl Tryz.call36) (R_route_Text r _ rA rC ((Ag.args _ _ _).view hv_r hs) (hT.arg hs) _ h) (fun v a w' hf hr => ?_)
 obtain ⟨y1, y2, rfl, h2, hs2⟩ := hr
 replace h := h2; replace hs := hs.call hs2; clear h2 hs2
 refine S.p hf hs (.tuple #[.string (ba y1), iv y2]) rfl rfl fun a hf => ?_
 refine S.p hf hs (.string (ba y1)) rfl rfl fun a hf => ?_
 refine S.p hf hs (iv y2) rfl rfl fun a hf => ?_
 refine S.p hf hs (.string (ba y1)) rfl rfl fun a hf => ?_
 refine S.p hf hs (iv y2) rfl rfl fun a hf => ?_
 refine R.nil (X.then_ (wp_seq (R.list ?_)))
 refine S.p hf hs (.slice rA r.length rC) rfl rfl fun a hf => ?_
 refine S.call hf rfl rfl rfl (call_fn (vs := [.slice rA r.length rC]) rfl rfl rfl Tryz.call37) (R_ref7_Text r _ rA rC ((Ag.args _ _ _).view hv_r hs) (hT.arg hs) _ h) (fun v a w' hf hr => ?_)
 obtain ⟨y3, y4, rfl, h2, hs2⟩ := hr
 replace h := h2; replace hs := hs.call hs2; clear h2 hs2
 refine S.p hf hs (.tuple #[.string (ba y3), iv y4]) rfl rfl fun a hf => ?_
 refine S.p hf hs (.string (ba y3)) rfl rfl fun a hf => ?_
 refine S.p hf hs (iv y4) rfl rfl fun a hf => ?_
 refine S.p hf hs (.string (ba y3)) rfl rfl fun a hf => ?_
 refine S.p hf hs (iv y4) rfl rfl fun a hf => ?_
 refine R.nil (X.then_ (wp_seq (wp_seq ?_)))
 refine C.cut (J := fun a w => ∃ (c1 : Bool), M_law_RouteTexts_k1 r Q y1 y2 c1 ∧ FrOk 50 [(0, .slice rA r.length rC), (3, .string (ba y1)), (4, iv y2), (30, .bool c1)] a ∧ Sat w0 none_ [] w) ?_ ?_
 ·rintro a w ⟨c1, h, hf, hs⟩
  unfold M_law_RouteTexts_k1 at h
  refine C.cond hf (b := c1) rfl (fun hc => ?_) (fun hc => ?_)
  ·replace h := h.1 hc
   refine wp_seq (R.list ?_)
   refine S.p hf hs (.bool false) rfl rfl fun a hf => ?_
   refine R.nil (X.then_ (wp_ret (X.then_ret ?_)))
   exact L.ret hf (run_results1 Tryz.results10 (ResIs.tmp hf rfl)) ⟨false, rfl, h, hs.nil⟩
  ·replace h := h.2 hc
   refine wp_skip (X.then_ (wp_seq (wp_seq (R.list ?_))))
   refine S.p hf hs (iv y2) rfl rfl fun a hf => ?_
   refine S.p hf hs (.bool (y2 != 0)) rfl rfl fun a hf => ?_
   refine R.nil (X.then_ ?_)
   refine C.cond hf (b := y2 != 0) rfl (fun hc => ?_) (fun hc => ?_)
   ·replace h := h.1 hc
    refine wp_seq (R.list ?_)
    refine S.p hf hs (.bool true) rfl rfl fun a hf => ?_
    refine R.nil (X.then_ (wp_ret (X.then_ret ?_)))
    exact L.ret hf (run_results1 Tryz.results10 (ResIs.tmp hf rfl)) ⟨true, rfl, h, hs.nil⟩
   ·replace h := h.2 hc
    refine wp_skip (X.then_ (wp_seq (R.list ?_)))
    refine S.p hf hs (.string (ba y1)) rfl rfl fun a hf => ?_
    refine S.call hf rfl rfl rfl (call_fn (vs := [.string (ba y1)]) rfl rfl rfl Tryz.call32) (R_route_Read y1 _  _ h) (fun v a w' hf hr => ?_)
    obtain ⟨y5, y5A, y5C, y5as, y6, y7, rfl, h2, hs2⟩ := hr
    replace h := h2; replace hs := hs.call hs2; clear h2 hs2
    refine S.p hf hs (.tuple #[.slice y5A y5.length y5C, iv y6, iv y7]) rfl rfl fun a hf => ?_
    refine S.p hf hs (.slice y5A y5.length y5C) rfl rfl fun a hf => ?_
    refine S.p hf hs (iv y6) rfl rfl fun a hf => ?_
    refine S.p hf hs (iv y7) rfl rfl fun a hf => ?_
    refine S.p hf hs (.slice y5A y5.length y5C) rfl rfl fun a hf => ?_
    refine S.p hf hs (iv y6) rfl rfl fun a hf => ?_
    refine S.p hf hs (iv y7) rfl rfl fun a hf => ?_
    refine R.nil (X.then_ (wp_seq (R.list ?_)))
    refine S.p hf hs (iv y7) rfl rfl fun a hf => ?_
    refine S.p hf hs (.bool (y7 == 0)) rfl rfl fun a hf => ?_
    refine S.split hf hs (b := y7 == 0) rfl rfl rfl (V.pure rfl) (fun hc a hf => ?_) (fun hc a hf => ?_)
    ·replace h := h.1 hc
     refine S.p hf hs (iv y6) rfl rfl fun a hf => ?_
     refine S.p hf hs (.bool (y6 == 0)) rfl rfl fun a hf => ?_
     refine S.p hf hs (.bool (y6 == 0)) rfl rfl fun a hf => ?_
     refine S.split hf hs (b := y6 == 0) rfl rfl rfl (V.pure rfl) (fun hc a hf => ?_) (fun hc a hf => ?_)
     ·replace h := h.1 hc
      refine S.p hf hs (.slice rA r.length rC) rfl rfl fun a hf => ?_
      refine S.p hf hs (.slice y5A y5.length y5C) rfl rfl fun a hf => ?_
      refine S.call hf rfl rfl rfl (call_fn (vs := [.slice rA r.length rC, .slice y5A y5.length y5C]) rfl rfl rfl Tryz.call34) (R_ref7_SameRouted r y5 _ rA rC ((Ag.args _ _ _).view hv_r hs) y5A y5C (hs.rowsViewD 0 rfl) _ h) (fun v a w' hf hr => ?_)
      obtain ⟨y8, rfl, h2, hs2⟩ := hr
      replace h := h2; replace hs := hs.call hs2; clear h2 hs2
      refine S.p hf hs (.bool y8) rfl rfl fun a hf => ?_
      refine S.p hf hs (.bool y8) rfl rfl fun a hf => ?_
      refine R.nil (X.then_ (wp_ret ?_))
      exact L.ret hf (run_results1 Tryz.results10 (ResIs.tmp hf rfl)) ⟨y8, rfl, h, hs.nil⟩
     ·replace h := h.2 hc
      refine S.k hf rfl fun a hf => ?_
      refine S.k hf rfl fun a hf => ?_
      refine S.k hf rfl fun a hf => ?_
      refine S.p hf hs (.bool false) rfl rfl fun a hf => ?_
      refine S.p hf hs (.bool false) rfl rfl fun a hf => ?_
      refine R.nil (X.then_ (wp_ret ?_))
      exact L.ret hf (run_results1 Tryz.results10 (ResIs.tmp hf rfl)) ⟨false, rfl, h, hs.nil⟩
    ·replace h := h.2 hc
     refine S.k hf rfl fun a hf => ?_
     refine S.k hf rfl fun a hf => ?_
     refine S.p hf hs (.bool false) rfl rfl fun a hf => ?_
     refine S.p hf hs (.bool false) rfl rfl fun a hf => ?_
     refine S.k hf rfl fun a hf => ?_
     refine S.k hf rfl fun a hf => ?_
     refine S.k hf rfl fun a hf => ?_
     refine S.p hf hs (.bool false) rfl rfl fun a hf => ?_
     refine S.p hf hs (.bool false) rfl rfl fun a hf => ?_
     refine R.nil (X.then_ (wp_ret ?_))
     exact L.ret hf (run_results1 Tryz.results10 (ResIs.tmp hf rfl)) ⟨false, rfl, h, hs.nil⟩
 ·skip
  refine R.list ?_
  refine S.p hf hs (iv y2) rfl rfl fun a hf => ?_
  refine S.p hf hs (iv y4) rfl rfl fun a hf => ?_
  refine S.p hf hs (.bool (y2 != y4)) rfl rfl fun a hf => ?_
  refine S.split hf hs (b := y2 != y4) rfl rfl rfl (V.pure rfl) (fun hc a hf => ?_) (fun hc a hf => ?_)
  ·replace h := h.1 hc
   refine S.k hf rfl fun a hf => ?_
   refine S.k hf rfl fun a hf => ?_
   refine S.k hf rfl fun a hf => ?_
   refine S.p hf hs (.bool true) rfl rfl fun a hf => ?_
   refine S.p hf hs (.bool true) rfl rfl fun a hf => ?_
   refine S.k hf rfl fun a hf => ?_
   refine S.k hf rfl fun a hf => ?_
   refine S.p hf hs (.bool true) rfl rfl fun a hf => ?_
   refine R.nil (X.then_ ?_)
   exact ⟨true, h, ((((hf.nil.cons (hf.get 30 _ rfl)).cons (hf.get 4 _ rfl)).cons (hf.get 3 _ rfl)).cons (hf.get 0 _ rfl)), hs⟩
  ·replace h := h.2 hc
   refine S.p hf hs (.string (ba y1)) rfl rfl fun a hf => ?_
   refine S.p hf hs (.string (ba y3)) rfl rfl fun a hf => ?_
   refine S.v hf hs (.bool (!(y1 == y3))) rfl (V.strCmp (!(y1 == y3)) rfl rfl rfl rfl) fun a hf => ?_
   refine S.p hf hs (.bool (!(y1 == y3))) rfl rfl fun a hf => ?_
   refine S.split hf hs (b := !(y1 == y3)) rfl rfl rfl (V.pure rfl) (fun hc a hf => ?_) (fun hc a hf => ?_)
   ·replace h := h.1 hc
    refine S.k hf rfl fun a hf => ?_
    refine S.k hf rfl fun a hf => ?_
    refine S.p hf hs (.bool true) rfl rfl fun a hf => ?_
    refine R.nil (X.then_ ?_)
    exact ⟨true, h, ((((hf.nil.cons (hf.get 30 _ rfl)).cons (hf.get 4 _ rfl)).cons (hf.get 3 _ rfl)).cons (hf.get 0 _ rfl)), hs⟩
   ·replace h := h.2 hc
    refine S.call hf rfl rfl rfl (call_fn (vs := []) rfl rfl rfl Tryz.call35) (R_route_awake  _  _ h) (fun v a w' hf hr => ?_)
    obtain ⟨y9, rfl, h2, hs2⟩ := hr
    replace h := h2; replace hs := hs.call hs2; clear h2 hs2
    refine S.p hf hs (.bool (!y9)) rfl rfl fun a hf => ?_
    refine S.p hf hs (.bool (!y9)) rfl rfl fun a hf => ?_
    refine R.nil (X.then_ ?_)
    exact ⟨(!y9), h, ((((hf.nil.cons (hf.get 30 _ rfl)).cons (hf.get 4 _ rfl)).cons (hf.get 3 _ rfl)).cons (hf.get 0 _ rfl)), hs⟩
end Go.Proofs.YtdnilnmdbgcmoaaGreatDoor
