/- Chapter texts of ours, as far as the claim needs them. -/
import Derived.Test.YtbegofbmbcghdaaGreatDoorMore
import Derived.OrdersHeld
namespace Go.Proofs.YtbegofbmbcghdaaGreatDoor
open Go Go.RowKit
set_option linter.unusedVariables false
set_option linter.unusedSectionVars false
set_option linter.unusedSimpArgs false
def gu (Q : Exit → Act → World → Prop) : Exit → Act → World → Prop
  | .panic _, _, _ => False
  | e, a, w => Q e a w
section
variable {P : Program} {n : Nat} {fs : Fr} {a : Act} {o : Oper} {v : Value} {ops : Array Oper} {Q : Exit → Act → World → Prop} {w w0 : World} {M : Nat → Prop} {σ : List gJ} {S : World → Prop} {fuel i : Nat} {listed : Array Bool}
theorem H.start {id : Nat} (hm : P.follows .mixedOrders = true) (h : wpAnyH P .any ops (gu Q) S ops.size (Array.replicate ops.size false) a w.drew) : (Code.region id ops true).wp P Q a w :=
  wp_mono (wp_region_held hm h) fun e a w he => by cases e <;> first | exact he | exact (he : False).elim
theorem H.val (hf : fB n fs a) (hs : S w) {d : Nat} (hi : ops[i]? = some o) (hg : gv ops fs o = some true) (hd : o.dst = some d) (hdn : Nat.blt d n = true) (h1 : Region.noSelect ops = true) (h2 : Region.free .any ops listed i = true) (h3 : (Region.ready .any ops listed).contains i = true)
    (hrun : ∀ a w, fB n fs a → S w → kC P o a w v) (k : ∀ a, fB n ((d, v) :: fs) a → wpAnyH P .any ops (gu Q) S fuel (listed.setIfInBounds i true) a w) : wpAnyH P .any ops (gu Q) S (fuel + 1) listed a w := by
  refine wpAnyH_take (v := v) hi h1 h2 h3 (fun c a w h => h) (.inl ⟨zK hf hg, fun w hw => hrun a w hf hw⟩) hs ?_
  rw [hd]
  exact k _ (hf.put d (Nat.blt_eq ▸ hdn) v)
theorem H.skip (hf : fB n fs a) (hs : S w) {d : Nat} (hi : ops[i]? = some o) (hg : gv ops fs o = some false) (hd : o.dst = some d) (hdn : Nat.blt d n = true) (h1 : Region.noSelect ops = true) (h2 : Region.free .any ops listed i = true) (h3 : (Region.ready .any ops listed).contains i = true)
    (k : ∀ a, fB n ((d, undef) :: fs) a → wpAnyH P .any ops (gu Q) S fuel (listed.setIfInBounds i true) a w) : wpAnyH P .any ops (gu Q) S (fuel + 1) listed a w := by
  refine wpAnyH_take (v := undef) hi h1 h2 h3 (fun c a w h => h) (.inr ⟨zK hf hg, rfl⟩) hs ?_
  rw [hd]
  exact k _ (hf.put d (Nat.blt_eq ▸ hdn) undef)
theorem H.split (hf : fB n fs a) (hs : S w) {d : Nat} {b : Bool} (hi : ops[i]? = some o) (hg : gv ops fs o = some true) (hd : o.dst = some d) (hdn : Nat.blt d n = true) (h1 : Region.noSelect ops = true) (h2 : Region.free .any ops listed i = true) (h3 : (Region.ready .any ops listed).contains i = true)
    (hrun : ∀ a w, fB n fs a → S w → kC P o a w (.bool b)) (kt : b = true → ∀ a, fB n ((d, .bool true) :: fs) a → wpAnyH P .any ops (gu Q) S fuel (listed.setIfInBounds i true) a w)
    (kf : b = false → ∀ a, fB n ((d, .bool false) :: fs) a → wpAnyH P .any ops (gu Q) S fuel (listed.setIfInBounds i true) a w) : wpAnyH P .any ops (gu Q) S (fuel + 1) listed a w := by
  refine H.val hf hs hi hg hd hdn h1 h2 h3 hrun (fun a ha => ?_)
  cases b
  · exact kf rfl a ha
  · exact kt rfl a ha
theorem H.one (hi : ops[i]? = some o) (hr : Region.ready .any ops listed = [i]) (h : wpList P ops (Exit.then (fun a' w' => S w' ∧ wpAnyH P .any ops (gu Q) S fuel (listed.setIfInBounds i true) a' w') (gu Q)) [o] a w) : wpAnyH P .any ops (gu Q) S (fuel + 1) listed a w := by
  refine wpAnyH_all hr (by simp) (fun j hj => ?_)
  have : j = i := by simpa using hj
  subst this
  unfold wpOp
  rw [hi]
  exact h
theorem H.done (hr : Region.ready .any ops listed = []) (h : Q .normal a w) : wpAnyH P .any ops (gu Q) S fuel listed a w := wpAnyH_done hr (show gu Q .normal a w from h) fuel
theorem Bo {t ty e : TypeId} {i : TypeInfo} (ht : P.underlying t = some (.slice e)) (hi : P.info? e = some i) {v : Value} {m : Nat} {xs : List Value} (hown : w.ownsRow 0 e i.size v m xs) (c : Nat) : (Builtin.append_ #[t, t] ty #[v, .slice none 0 c]).run P w = .ok v w := by
  rcases hown.2 with ⟨rfl, rfl⟩ | ⟨g, cap, cur, rfl, _, _, hnc, _⟩
  · simp [Builtin.append_, run_underlying ht, sizeOf, typeInfo, hi, Builtin.lenOf, Builtin.firstCells]
  · simp [Builtin.append_, run_underlying ht, sizeOf, typeInfo, hi, Builtin.lenOf, Builtin.firstCells, hnc, storeCells]
theorem S.Ae (q : Nat) {rest : List Oper} (hf : fB n fs a) (hs : Sat w0 M σ w) {d : Nat} (hg : gv ops fs o = some true) (hd : o.dst = some d) (hdn : Nat.blt d n = true) {α : Type} [Flat α] {e : TypeId} {A : Option Addr} {C : Nat} {xs ys : List α} (hq : σ[q]? = some (hown e A C xs)) {x y : Operand} {t : TypeId} {A2 : Option Addr} {C2 bytes : Nat} {zc : List Value}
    (ho : o.op = .call ⟨.builtin .append, #[x, y], #[t, t]⟩) (hx : ev fs x = some (.slice A xs.length C)) (hy : ev fs y = some (.slice A2 ys.length C2)) (ht : P.underlying t = some (.slice e)) (hi : uY P e (Flat.sz α) bytes zc) (hzc : zc.length = Flat.sz α) (hroom : room (xs ++ ys).length bytes)
    (hv : View w (old w none_) A2 C2 ys)
    (k : ∀ A' C' a w', fB n ((d, .slice A' (xs ++ ys).length C') :: fs) a → Sat w0 M (σ.set q (hown e A' C' (xs ++ ys))) w' → wpList P ops Q rest a w') : wpList P ops Q (o :: rest) a w := by
  cases hA : A2 with
  | some ad => exact S.jq q hf hs hg hd hdn hq ho hx hy ht hi hzc hroom (by rw [hA]; rfl) hv k
  | none =>
    have hys : ys = [] := by
      cases ys with
      | nil => rfl
      | cons y r => have := hv.some_ (i := 0) (by simp); rw [hA] at this; cases this
    subst hys
    subst hA
    obtain ⟨i, u, h1, h2, h3, h4, h5⟩ := hi.info
    obtain ⟨F, ⟨hown', hF⟩, hlt, hupd⟩ := hs.upd q hq
    refine S.act (R := fun v w' => v = .slice A (xs ++ []).length C ∧ Sat w0 M (σ.set q (hown e A C (xs ++ []))) w') hf hg hd hdn (fun a hf => ?_) (fun v a w' hf ⟨hv, hs⟩ => k A C a w' (hv ▸ hf) hs)
    refine ⟨_, w, Bh ho (hf.gX hx) (hf.gX hy) (Bo ht h1 (by rw [h3]; exact hown') C2), by rw [List.append_nil], hupd w _ F (Keeps.refl _ _) ⟨by rw [List.append_nil]; exact hown', fun b => by rw [List.append_nil]; exact hF b⟩ (fun b hb => ⟨.inl hb, hlt b hb⟩)⟩
theorem V.indexStr {t : TypeId} {x i : Operand} {s : Str} {z : Int} {b : UInt8} (ho : o.op = .index t x i) (hx : ev fs x = some (.string (ba s))) (hi : ev fs i = some (.int .i64 z)) (ht : ∀ w, (underlying t).run P w = .ok .string w) (h0 : 0 ≤ z) (hb : s[z.toNat]? = some b) :
    ∀ a w, fB n fs a → Sat w0 M σ w → kC P o a w (.int .u8 (b.toNat : Int)) := fun a w hf _ => by
  have e1 := hf.gX hx
  have e2 := hf.gX hi
  refine jg (s := Instr.index t (a.eval x) (a.eval i)) (by unfold execOp; rw [ho]) ?_
  rw [e1, e2]
  have hget : (ba s)[z.toNat]? = some b := by
    have hlt : z.toNat < (ba s).size := by rw [vN]; exact TL hb
    rw [getElem?_pos (ba s) z.toNat hlt]
    obtain ⟨h1, h2⟩ := List.getElem?_eq_some_iff.1 hb
    rw [← h2]
    rfl
  unfold Instr.index
  simp only [Sem.run_bind, asIntOf, Sem.run_pure, Result.andThen_ok, ht, h0, if_true, hget]
def CO (fs : Fr) : List (Nat × Operand) → Option (List (Nat × Value))
  | [] => some []
  | p :: r => match ev fs p.2, CO fs r with
    | some v, some l => some ((p.1, v) :: l)
    | _, _ => none
theorem DK (h : fB n fs a) : ∀ {l : List (Nat × Operand)} {m : List (Nat × Value)}, CO fs l = some m → l.map (fun p => (p.1, a.eval p.2)) = m
  | [], m, hm => by simpa [CO] using hm
  | x :: l, m, hm => by
    unfold CO at hm
    split at hm <;> try (cases hm; done)
    rename_i v r hv hr
    simp only [Option.some.injEq] at hm
    subst hm
    simp [h.gX hv, DK h hr]
theorem V.build {t : TypeId} {parts : Array (Nat × Operand)} {fls : Array Field} {z : Value} {places : Array (Nat × Nat)} {pv : List (Nat × Value)} {cells : Array Value} (ho : o.op = .build t parts) (hz : ∀ w, (zeroValue t).run P w = .ok z w) (hu : ∀ w, (underlying t).run P w = .ok (.struct fls) w)
    (hpl : ∀ w, (fls.mapM fun f => do Pure.pure (f.offset, ← Go.sizeOf f.type) : Sem (Array (Nat × Nat))).run P w = .ok places w) (hpv : CO fs parts.toList = some pv) (hfill : Instr.fill (places[·]?) z.cells pv = some cells) :
    ∀ a w, fB n fs a → Sat w0 M σ w → kC P o a w (.agg cells) := fun a w hf _ => by
  have e : parts.map (fun (p : Nat × Operand) => (p.1, a.eval p.2)) = pv.toArray := Array.ext' (by rw [Array.toList_map]; exact DK hf hpv)
  refine jg (s := Instr.build t (parts.map (fun (p : Nat × Operand) => (p.1, a.eval p.2)))) (by unfold execOp; rw [ho]) ?_
  rw [e]
  unfold Instr.build
  simp only [Sem.run_bind, hz, hu, Result.andThen_ok, hpl, hfill]
  rfl
theorem S.buildSlice {rest : List Oper} (hf : fB n fs a) (hs : Sat w0 M σ w) {d : Nat} (hg : gv ops fs o = some true) (hd : o.dst = some d) (hdn : Nat.blt d n = true) {α : Type} [Flat α] (ys : List α) {t : TypeId} {m : Nat} {parts : Array (Nat × Operand)} {e : TypeId} {z : Value} {pv : List (Nat × Value)}
    (ho : o.op = .buildSlice t m parts) (hpv : CO fs parts.toList = some pv) (ht : ∀ w, (underlying t).run P w = .ok (.slice e) w) (hsz : ∀ w, (Go.sizeOf e).run P w = .ok (Flat.sz α) w)
    (hz : ∀ w, (zeroValue e).run P w = .ok z w) (hfill : Instr.fill (fun i => some (i * Flat.sz α, Flat.sz α)) ((Array.range (m * Flat.sz α)).map (z.cells[· % z.cells.size]!)) pv = some (ys.flatMap Flat.enc).toArray) (hm : ys.length = m) (hm0 : 0 < m) (hsm : m * Flat.sz α ≤ 16777216)
    (k : ∀ A a w', fB n ((d, .slice A ys.length m) :: fs) a → Sat w0 M (hown e A m ys :: σ) w' → wpList P ops Q rest a w') : wpList P ops Q (o :: rest) a w := by
  refine S.act (R := fun v w' => ∃ A, v = .slice A ys.length m ∧ Sat w0 M (hown e A m ys :: σ) w') hf hg hd hdn (fun a hf => ?_) (fun v a w' hf ⟨A, hv, hs⟩ => k A a w' (hv ▸ hf) hs)
  have hpos : 0 < Flat.sz α := Flat.pos
  have hml : m ≤ m * Flat.sz α := Nat.le_mul_of_pos_right m hpos
  have hmap : parts.map (fun (p : Nat × Operand) => (p.1, a.eval p.2)) = pv.toArray := Array.ext' (by rw [Array.toList_map]; exact DK hf hpv)
  refine ⟨_, _, ?_, some ⟨w.heap.size, 0, none⟩, rfl, hs.add (Keeps.alloc w (.cells (ys.flatMap Flat.enc).toArray e) _) (F' := fun b => b = w.heap.size) ⟨⟨?_, ?_⟩, fun b => by simp [Value.ownBlock]; exact eq_comm⟩ (fun b hb => by subst hb; simp)⟩
  · have hn : ¬ m * Flat.sz α > 2 ^ 24 := by omega
    have hn0 : ¬ m * Flat.sz α = 0 := by omega
    have hop : execOp a.eval o = (do Pure.pure (Next.value (← Instr.buildSlice t m pv.toArray)) : Sem Next) := by
      unfold execOp
      simp only [ho]
      rw [← hmap]
    have hrun : (Instr.buildSlice t m pv.toArray).run P w = .ok (.slice (some ⟨w.heap.size, 0, none⟩) m m) (w.alloc (.cells (ys.flatMap Flat.enc).toArray e)) := by
      unfold Instr.buildSlice
      simp only [Sem.run_bind, ht, Result.andThen_ok, hsz, hn, if_false, hn0, hz, Sem.run_pure]
      simp only [hfill]
      rfl
    rw [hop, Sem.run_bind, hrun, hm]
    rfl
  · rw [fV]
  · refine .inr ⟨w.heap.size, m, (ys.flatMap Flat.enc).toArray, rfl, Nat.zero_le _, lU w _, Nat.le_of_eq hm, by unfold maxLen; omega, by rw [List.size_toArray, fV, hm], ?_⟩
    show List.take _ (ys.flatMap Flat.enc) = _
    exact List.take_of_length_le (by rw [fV]; exact Nat.le_refl _)
def gI : Str → Str → Bool := Op.bytesLess
theorem V.qL (b : Bool) {op : BinOp} {t ty : TypeId} {x y : Operand} {s u : Str} (ho : o.op = .binOp op t x y ty) (hx : ev fs x = some (.string (ba s))) (hy : ev fs y = some (.string (ba u)))
    (hb : (match op with | .eql => some (s == u) | .neq => some (!(s == u)) | .lss => some (gI s u) | .leq => some (gI s u || s == u) | .gtr => some (!(gI s u || s == u)) | .geq => some (!(gI s u)) | _ => none) = some b) :
    ∀ a w, fB n fs a → Sat w0 M σ w → kC P o a w (.bool b) := fun a w hf _ => by
  have e1 := hf.gX hx
  have e2 := hf.gX hy
  have l1 : (ba s).toList = s := by simp [ba, ByteArray.toList_eq]
  have l2 : (ba u).toList = u := by simp [ba, ByteArray.toList_eq]
  refine jg (s := (do eqGuard op t x y (a.eval x) (a.eval y); binOp op t (a.eval x) (a.eval y))) (by unfold execOp; rw [ho]) ?_
  rw [e1, e2]
  cases op <;> simp only [reduceCtorEq, Option.some.injEq] at hb <;> subst hb <;> simp only [eqGuard_at_string, Sem.run_bind, Sem.run_pure, Result.andThen_ok, binOp, Op.stringOp, l1, l2, gI]
theorem V.RX {op : BinOp} {t ty : TypeId} {x y : Operand} {p q b : Bool} (ho : o.op = .binOp op t x y ty) (hx : ev fs x = some (.bool p)) (hy : ev fs y = some (.bool q)) (ht : P.underlying t = some .bool)
    (hb : (match op with | .eql => some (p == q) | .neq => some (!(p == q)) | _ => none) = some b) :
    ∀ a w, fB n fs a → Sat w0 M σ w → kC P o a w (.bool b) := fun a w hf _ => by
  have e1 := hf.gX hx
  have e2 := hf.gX hy
  refine jg (s := (do eqGuard op t x y (a.eval x) (a.eval y); binOp op t (a.eval x) (a.eval y))) (by unfold execOp; rw [ho]) ?_
  rw [e1, e2]
  cases op <;> simp only [reduceCtorEq, Option.some.injEq] at hb <;> subst hb
  · simp only [eqGuard_at_bool, Sem.run_bind, Sem.run_pure, Result.andThen_ok, run_eql_bool w t p q ht]
  · simp only [eqGuard_at_bool, Sem.run_bind, Sem.run_pure, Result.andThen_ok, run_neq_bool w t p q ht]
end
end Go.Proofs.YtbegofbmbcghdaaGreatDoor
