/- Chapter texts of ours, as far as the claim needs them. -/
import Derived.Test.YtdnilnmdbgcmoaaGreatDoorPtrs
namespace Go.Proofs.YtdnilnmdbgcmoaaGreatDoor
open Go Go.RowKit
set_option linter.unusedVariables false
set_option linter.unusedSectionVars false
set_option linter.unusedSimpArgs false
abbrev Dp := Option Addr × Nat × List (Option Addr × Nat)
class Row2 (α : Type) (β T : outParam Type) [Rep α] [Rep β] [Flat T] where
  inner : α → List β
  sh : α → Option Addr → Nat → T
  rep : ∀ {w F A C z}, View w F A C (inner z) → Rep.rd w F (Flat.enc (sh z A C)) z
  same : Rep.sz α = Flat.sz T
instance instRow2List {β : Type} [Rep β] : Row2 (List β) β Sl := ⟨fun x => x, fun x A C => ⟨A, x.length, C⟩, fun h => ⟨_, _, rfl, h⟩, rfl⟩
section
variable {α β γ T U : Type} [Rep α] [Rep β] [Flat γ] [Flat T] [Flat U] [Row1 β γ U] [Row2 α β T]
def shadD (zs : List α) (as : List Dp) : List T := zs.zipWith (fun z a => Row2.sh z a.1 a.2.1) as
def partD (e' e'' : TypeId) (z : α) (a : Dp) : HProp := hrows e' e'' a.1 a.2.1 a.2.2 (Row2.inner z)
def starD (e' e'' : TypeId) (zs : List α) (as : List Dp) : List HProp := zs.zipWith (partD e' e'') as
def hdeepX (e e' e'' : TypeId) (A : Option Addr) (C : Nat) (as : List Dp) (zs : List α) (L : List HProp) : HProp := hall (hfact (as.length = zs.length) :: hown e A C (shadD zs as) :: L)
def hdeep (e e' e'' : TypeId) (A : Option Addr) (C : Nat) (as : List Dp) (zs : List α) : HProp := hdeepX e e' e'' A C as zs (starD e' e'' zs as)
def hdeepH (e e' e'' : TypeId) (A : Option Addr) (C : Nat) (as : List Dp) (zs : List α) (i : Nat) : HProp := hdeepX e e' e'' A C as zs ((starD e' e'' zs as).eraseIdx i)
variable {w w0 : World} {M : Nat → Prop} {σ L : List HProp} {p q : HProp} {e e' e'' : TypeId} {A : Option Addr} {C : Nat} {zs : List α} {as : List Dp}
theorem shadD_get {i : Nat} {z : α} {a : Dp} (hz : zs[i]? = some z) (ha : as[i]? = some a) : (shadD zs as)[i]? = some (Row2.sh z a.1 a.2.1) := by
  unfold shadD; rw [List.getElem?_zipWith, hz, ha]
theorem starD_get {i : Nat} {z : α} {a : Dp} (hz : zs[i]? = some z) (ha : as[i]? = some a) : (starD e' e'' zs as)[i]? = some (partD e' e'' z a) := by
  unfold starD; rw [List.getElem?_zipWith, hz, ha]
theorem shadD_length (h : as.length = zs.length) : (shadD zs as).length = zs.length := by unfold shadD; rw [List.length_zipWith]; omega
theorem Sat.dxOpen (h : Sat w0 M (hdeepX e e' e'' A C as zs L :: σ) w) : Sat w0 M (hown e A C (shadD zs as) :: (L ++ σ)) w ∧ as.length = zs.length := ⟨h.hOpen.drop, h.hOpen.fact⟩
theorem Sat.dxClose (hl : as.length = zs.length) (h : Sat w0 M (hown e A C (shadD zs as) :: (L ++ σ)) w) : Sat w0 M (hdeepX e e' e'' A C as zs L :: σ) w := Sat.hClose (Sat.addFact hl h)
theorem Sat.dAt (hl : as.length = zs.length) {i : Nat} {z : α} (hz : zs[i]? = some z) : ∃ (B : Option Addr) (D : Nat) (Bs : List (Option Addr × Nat)), as[i]? = some (B, D, Bs) :=
  ⟨_, _, _, List.getElem?_eq_getElem (by rw [hl]; exact lt_of_get hz)⟩
theorem Sat.rowsLenD (hs : Sat w0 M σ w) (q : Nat) (hq : σ[q]? = some (hdeepX e e' e'' A C as zs L)) : as.length = zs.length := (hs.front q hq).dxOpen.2
theorem Sat.rowAtD (hs : Sat w0 M σ w) (q : Nat) (hq : σ[q]? = some (hdeepX e e' e'' A C as zs L)) {i : Nat} {z : α} (hz : zs[i]? = some z) : ∃ (B : Option Addr) (D : Nat) (Bs : List (Option Addr × Nat)), as[i]? = some (B, D, Bs) := Sat.dAt (hs.rowsLenD q hq) hz
theorem Sat.rowsCapD (hs : Sat w0 M σ w) (q : Nat) (hq : σ[q]? = some (hdeepX e e' e'' A C as zs L)) : zs.length ≤ C ∧ C ≤ maxLen := by
  obtain ⟨h, hl⟩ := (hs.front q hq).dxOpen
  have := h.ownView 0 rfl
  have h2 := this.cap
  rw [shadD_length hl] at h2
  exact ⟨h2, this.most⟩
theorem Sat.rowsSomeD (hs : Sat w0 M σ w) (q : Nat) (hq : σ[q]? = some (hdeepX e e' e'' A C as zs L)) {i : Nat} {z : α} (hz : zs[i]? = some z) : A.isSome = true := by
  obtain ⟨hs1, hl⟩ := (hs.front q hq).dxOpen
  obtain ⟨B, D, Bs, ha⟩ := Sat.dAt hl hz
  exact (hs1.ownView 0 rfl).some_ (lt_of_get (shadD_get (T := T) hz ha))
section
variable {i : Nat} {z : α} {B : Option Addr} {D : Nat} {Bs : List (Option Addr × Nat)}
theorem Sat.dPart (hs : Sat w0 M σ w) (q : Nat) (hq : σ[q]? = some (hdeep e e' e'' A C as zs)) (hz : zs[i]? = some z) (ha : as[i]? = some (B, D, Bs)) : ∃ σ', Sat w0 M (hrows e' e'' B D Bs (Row2.inner z) :: σ') w := by
  have h := (hs.front q hq).dxOpen.1
  have hst := starD_get (e' := e') (e'' := e'') hz ha
  exact ⟨_, h.front (1 + i) (by rw [Nat.add_comm, List.getElem?_cons_succ, List.getElem?_append_left (lt_of_get hst)]; exact hst)⟩
theorem Sat.rowViewD (hs : Sat w0 M σ w) (q : Nat) (hq : σ[q]? = some (hdeep e e' e'' A C as zs)) (hz : zs[i]? = some z) (ha : as[i]? = some (B, D, Bs)) : View w (old w none_) B D (Row2.inner z) := by
  obtain ⟨σ', h⟩ := hs.dPart q hq hz ha
  exact h.rowsView 0 rfl
end
theorem Sat.rowsViewD (hs : Sat w0 M σ w) (q : Nat) (hq : σ[q]? = some (hdeep e e' e'' A C as zs)) : View w (old w none_) A C zs := by
  obtain ⟨h1, h2⟩ := hs.rowsCapD q hq
  refine ⟨h1, h2, fun i z hz => ?_⟩
  obtain ⟨B, D, Bs, ha⟩ := hs.rowAtD q hq hz
  have hv := hs.rowViewD q hq hz ha
  have := ((hs.front q hq).dxOpen.1.ownView 0 rfl).flat (shadD_get hz ha)
  exact ⟨_, by rw [Row2.same]; exact this, Row2.rep hv⟩
variable {P : Program} {n : Nat} {fs : Fr} {a : Act} {o : Oper} {v : Value} {ops : Array Oper} {rest : List Oper} {Q : Exit → Act → World → Prop}
theorem V.loadRowsD (q : Nat) (hq : σ[q]? = some (hdeepX e e' e'' A C as zs L)) {i k' off m : Nat} {z : α} {B : Option Addr} {D : Nat} {Bs : List (Option Addr × Nat)} (hz : zs[i]? = some z) (ha : as[i]? = some (B, D, Bs)) {t : TypeId} {x : Operand} {agg : Bool} (ho : o.op = .load t x) (hx : ev fs x = some (elemPtr A k'))
    (hk : k' = i * Flat.sz T + off) (hag : ∀ w, (isAgg t).run P w = .ok agg w) (hsz : ∀ w, (Go.sizeOf t).run P w = .ok m w) (hl : (((Flat.enc (Row2.sh z B D)).drop off).take m).length = m) (hv : mkv agg (((Flat.enc (Row2.sh z B D)).drop off).take m) = some v) :
    ∀ a w, FrOk n fs a → Sat w0 M σ w → RunV P o a w v := fun a w hf hs =>
  V.loadOwn 0 rfl (shadD_get hz ha) ho hx hk hag hsz hl hv a w hf (hs.front q hq).dxOpen.1
theorem Sat.takeRowD (hs : Sat w0 M σ w) (q : Nat) (hq : σ[q]? = some (hdeep e e' e'' A C as zs)) {i : Nat} {z : α} {B : Option Addr} {D : Nat} {Bs : List (Option Addr × Nat)} (hz : zs[i]? = some z) (ha : as[i]? = some (B, D, Bs)) : Sat w0 M (hrows e' e'' B D Bs (Row2.inner z) :: σ.set q (hdeepH e e' e'' A C as zs i)) w := by
  obtain ⟨hs1, hlen⟩ := (hs.front q hq).dxOpen
  have hst := starD_get (e' := e') (e'' := e'') hz ha
  have hp : (hown e A C (shadD zs as) :: (starD e' e'' zs as ++ σ.eraseIdx q)).Perm (hown e A C (shadD zs as) :: ((starD e' e'' zs as).eraseIdx i ++ partD e' e'' z (B, D, Bs) :: σ.eraseIdx q)) := by
    refine List.Perm.cons _ (((perm_front i _ _ hst).append_right _).trans ?_)
    exact List.perm_middle.symm
  have h2 := Sat.dxClose (e' := e') (e'' := e'') hlen (hs1.perm hp)
  have h3 : Sat w0 M (hrows e' e'' B D Bs (Row2.inner z) :: hdeepH e e' e'' A C as zs i :: σ.eraseIdx q) w := h2.perm (List.Perm.swap _ _ _)
  refine h3.perm (List.Perm.cons _ ?_)
  have := perm_front q (σ.set q (hdeepH e e' e'' A C as zs i)) _ (getElem?_set_self' σ q _ _ hq)
  rw [eraseIdx_set] at this
  exact this.symm
theorem S.putBackD (q : Nat) (hf : FrOk n fs a) {B : Option Addr} {D : Nat} {Bs : List (Option Addr × Nat)} {ys : List β} (hs : Sat w0 M (hrows e' e'' B D Bs ys :: σ) w) (hg : gv ops fs o = some true) (hd : o.dst = none) {t : TypeId} {x y : Operand} {i k' off m : Nat} {z : α} (z' : α) {B0 : Option Addr} {D0 : Nat} {Bs0 : List (Option Addr × Nat)} (us : List Value)
    (hq : σ[q]? = some (hdeepH e e' e'' A C as zs i)) (hz : zs[i]? = some z) (ha : as[i]? = some (B0, D0, Bs0)) (hz' : Row2.inner z' = ys)
    (ho : o.op = .store t x y) (hx : ev fs x = some (elemPtr A k')) (hk : k' = i * Flat.sz T + off) (hy : ev fs y = some v) (hv : v.cells = us.toArray)
    (hsz : ∀ w, (Go.sizeOf t).run P w = .ok m w) (hl : us.length = m) (hfit : off + m ≤ Flat.sz T) (h1 : us.all (·.oneCell') = true) (hvs : (Flat.enc (Row2.sh z B0 D0)).take off ++ us ++ (Flat.enc (Row2.sh z B0 D0)).drop (off + m) = Flat.enc (Row2.sh z' B D))
    (k : ∀ a w', FrOk n fs a → Sat w0 M (σ.set q (hdeep e e' e'' A C (as.set i (B, D, Bs)) (zs.set i z'))) w' → wpList P ops Q rest a w') : wpList P ops Q (o :: rest) a w := by
  have hs0 : Sat w0 M (hdeepH e e' e'' A C as zs i :: hrows e' e'' B D Bs ys :: σ.eraseIdx q) w := (hs.front (q + 1) (by simpa using hq)).perm (by simp)
  obtain ⟨hs1, hlen⟩ := hs0.dxOpen
  have hst := starD_get (e' := e') (e'' := e'') hz ha
  refine S.storeOwn 0 hf hs1 hg hd (Row2.sh z' B D) us rfl (shadD_get hz ha) ho hx hk hy hv hsz hl hfit h1 hvs (fun a w' hf hs2 => k a w' hf ?_)
  refine Sat.unfront hq (Sat.dxClose (by simp [hlen]) ?_)
  have e1 : shadD (zs.set i z') (as.set i (B, D, Bs)) = (shadD zs as).set i (Row2.sh z' B D) := (zipWith_set' (fun z (a : Dp) => Row2.sh z a.1 a.2.1) zs as i z' (B, D, Bs)).symm
  have e2 : starD e' e'' (zs.set i z') (as.set i (B, D, Bs)) = (starD e' e'' zs as).set i (hrows e' e'' B D Bs ys) := by
    have := (zipWith_set' (partD e' e'') zs as i z' (B, D, Bs)).symm
    rw [← hz']; exact this
  rw [e1, e2]
  have hs3 : Sat w0 M (hown e A C ((shadD zs as).set i (Row2.sh z' B D)) :: ((starD e' e'' zs as).eraseIdx i ++ hrows e' e'' B D Bs ys :: σ.eraseIdx q)) w' := hs2
  refine hs3.perm (List.Perm.cons _ (List.perm_middle.trans ?_))
  have := (perm_front i ((starD e' e'' zs as).set i (hrows e' e'' B D Bs ys)) _ (getElem?_set_self' _ i _ _ hst)).symm
  rw [eraseIdx_set] at this
  exact this.append_right (σ.eraseIdx q)
theorem Sat.nilRowsD (hs : Sat w0 M σ w) (e e' e'' : TypeId) : Sat w0 M (hdeep e e' e'' none 0 ([] : List Dp) ([] : List α) :: σ) w :=
  Sat.dxClose rfl (hs.nilOwn (α := T) e)
theorem S.appendRowD (q : Nat) (hf : FrOk n fs a) {B : Option Addr} {D : Nat} {Bs : List (Option Addr × Nat)} {ys : List β} (hs : Sat w0 M (hrows e' e'' B D Bs ys :: σ) w) {d : Nat} (hg : gv ops fs o = some true) (hd : o.dst = some d) (hdn : Nat.blt d n = true) (z : α) (hz : Row2.inner z = ys) {x y : Operand} {t : TypeId} {A2 : Option Addr} {C2 bytes : Nat} {zc : List Value}
    (hq : σ[q]? = some (hdeep e e' e'' A C as zs)) (ho : o.op = .call ⟨.builtin .append, #[x, y], #[t, t]⟩) (hx : ev fs x = some (.slice A zs.length C)) (hy : ev fs y = some (.slice A2 1 C2)) (ht : P.underlying t = some (.slice e)) (hi : TyInfo P e (Flat.sz T) bytes zc) (hzc : zc.length = Flat.sz T) (hroom : room (zs ++ [z]).length bytes)
    (hA2 : A2.isSome = true) (hv : View w (old w none_) A2 C2 [Row2.sh z B D])
    (k : ∀ A' C' a w', FrOk n ((d, .slice A' (zs ++ [z]).length C') :: fs) a → Sat w0 M (σ.set q (hdeep e e' e'' A' C' (as ++ [(B, D, Bs)]) (zs ++ [z]))) w' → wpList P ops Q rest a w') : wpList P ops Q (o :: rest) a w := by
  have hs0 : Sat w0 M (hdeep e e' e'' A C as zs :: hrows e' e'' B D Bs ys :: σ.eraseIdx q) w := (hs.front (q + 1) (by simpa using hq)).perm (by simp)
  obtain ⟨hs1, hlen⟩ := hs0.dxOpen
  have hsl := shadD_length (T := T) hlen
  refine S.appendCells 0 hf hs1 hg hd hdn rfl ho (by rw [hsl]; exact hx) hy ht hi hzc (by rw [List.length_append, hsl]; simpa using hroom) hA2 hv (fun A' C' a w' hf hs2 => k A' C' a w' (by rw [List.length_append, hsl] at hf; simpa using hf) ?_)
  refine Sat.unfront hq (Sat.dxClose (by simp [hlen]) ?_)
  have e1 : shadD (zs ++ [z]) (as ++ [(B, D, Bs)]) = shadD zs as ++ [Row2.sh z B D] := by unfold shadD; rw [List.zipWith_append hlen.symm]; rfl
  have e2 : starD e' e'' (zs ++ [z]) (as ++ [(B, D, Bs)]) = starD e' e'' zs as ++ [hrows e' e'' B D Bs ys] := by unfold starD; rw [List.zipWith_append hlen.symm, ← hz]; rfl
  rw [e1, e2, List.append_assoc]
  exact hs2
end
end Go.Proofs.YtdnilnmdbgcmoaaGreatDoor
