/- Chapter texts of ours, as far as the claim needs them. -/
import Derived.Test.YtihjaehkdgdenaaGreatDoorNest
namespace Go.Proofs.YtihjaehkdgdenaaGreatDoor
open Go Go.RowKit
set_option linter.unusedVariables false
set_option linter.unusedSectionVars false
set_option linter.unusedSimpArgs false
structure Pt where
  q : Option Nat
  A0 : Option Addr
  C0 : Nat
  A1 : Option Addr
  C1 : Nat
instance : Flat Pt := ⟨1, Nat.one_pos, fun s => [.pointer (s.q.map fun g => ⟨g, 0, none⟩)], fun _ => rfl, fun _ v hv => by simp at hv; subst hv; rfl⟩
structure PBox (X β0 β1 : Type) where
  t : TypeId
  e0 : TypeId
  e1 : TypeId
  cells : Pt → X → List Value
  r0 : X → List β0
  r1 : X → List β1
def hall (L : List HProp) : HProp := ⟨fun w F => SatU w F L (fun _ => False), fun h hb => SatU.mono h (fun _ h => h) (fun _ _ h => h) (fun b hz _ => hb b hz)⟩
def hfact (p : Prop) : HProp := ⟨fun _ _ => p, fun h _ => h⟩
section
variable {w w0 : World} {M : Nat → Prop} {σ L : List HProp} {p : Prop}
theorem Sat.hOpen (h : Sat w0 M (hall L :: σ) w) : Sat w0 M (L ++ σ) w := by
  obtain ⟨F, hp, hF, hr⟩ := h.sat
  exact ⟨h.keeps, SatU.append (F := F) hp (fun b hb => (hF b hb).1) (fun _ _ hn => hn) hr⟩
theorem Sat.hClose (h : Sat w0 M (L ++ σ) w) : Sat w0 M (hall L :: σ) w := by
  obtain ⟨F, hF, hL, hσ⟩ := SatU.parts h.sat
  exact ⟨h.keeps, F, hL, hF, hσ⟩
theorem Sat.fact (h : Sat w0 M (hfact p :: σ) w) : p := by
  obtain ⟨F, hp, _, _⟩ := h.sat
  exact hp
theorem Sat.addFact (hp : p) (h : Sat w0 M σ w) : Sat w0 M (hfact p :: σ) w :=
  ⟨h.keeps, fun _ => False, hp, fun _ e => e.elim, SatU.mono h.sat (fun _ h => h) (fun b _ hn e => e.elim hn (fun e => e)) (fun _ _ _ => rfl)⟩
end
end Go.Proofs.YtihjaehkdgdenaaGreatDoor
namespace Go.Proofs.YtihjaehkdgdenaaGreatDoor
open Go Go.RowKit
set_option linter.unusedVariables false
set_option linter.unusedSectionVars false
set_option linter.unusedSimpArgs false
abbrev Dp := Option Addr × Nat × List (Option Addr × Nat)
class Row2 (α : Type) (β T : outParam Type) [Rep α] [Rep β] [Flat T] where
  inner : α → List β
  sh : α → Option Addr → Nat → T
  rep : ∀ {w F A C z}, View w F A C (inner z) → Rep.rd w F (Flat.enc (sh z A C)) z
  same : Rep.sz α = Flat.sz T
instance instRow2List {β : Type} [Rep β] : Row2 (List β) β Sl := ⟨fun x => x, fun x A C => ⟨A, x.length, C⟩, fun h => ⟨_, _, rfl, h⟩, rfl⟩
section
variable {α β γ T U : Type} [Rep α] [Rep β] [Flat γ] [Flat T] [Flat U] [Row1 β γ U] [Row2 α β T]
def shadD (zs : List α) (as : List Dp) : List T := zs.zipWith (fun z a => Row2.sh z a.1 a.2.1) as
def partD (e' e'' : TypeId) (z : α) (a : Dp) : HProp := hrows e' e'' a.1 a.2.1 a.2.2 (Row2.inner z)
def starD (e' e'' : TypeId) (zs : List α) (as : List Dp) : List HProp := zs.zipWith (partD e' e'') as
def hdeepX (e e' e'' : TypeId) (A : Option Addr) (C : Nat) (as : List Dp) (zs : List α) (L : List HProp) : HProp := hall (hfact (as.length = zs.length) :: hown e A C (shadD zs as) :: L)
def hdeep (e e' e'' : TypeId) (A : Option Addr) (C : Nat) (as : List Dp) (zs : List α) : HProp := hdeepX e e' e'' A C as zs (starD e' e'' zs as)
def hdeepF (e e' e'' : TypeId) (A : Option Addr) (C : Nat) (as : List Dp) (zs : List α) (k : Nat) : HProp := hdeepX e e' e'' A C as zs ((starD e' e'' zs as).drop k)
variable {w w0 : World} {M : Nat → Prop} {σ L : List HProp} {p q : HProp} {e e' e'' : TypeId} {A : Option Addr} {C : Nat} {zs : List α} {as : List Dp}
theorem shadD_get {i : Nat} {z : α} {a : Dp} (hz : zs[i]? = some z) (ha : as[i]? = some a) : (shadD zs as)[i]? = some (Row2.sh z a.1 a.2.1) := by
  unfold shadD; rw [List.getElem?_zipWith, hz, ha]
theorem starD_get {i : Nat} {z : α} {a : Dp} (hz : zs[i]? = some z) (ha : as[i]? = some a) : (starD e' e'' zs as)[i]? = some (partD e' e'' z a) := by
  unfold starD; rw [List.getElem?_zipWith, hz, ha]
theorem shadD_length (h : as.length = zs.length) : (shadD zs as).length = zs.length := by unfold shadD; rw [List.length_zipWith]; omega
theorem Sat.dxOpen (h : Sat w0 M (hdeepX e e' e'' A C as zs L :: σ) w) : Sat w0 M (hown e A C (shadD zs as) :: (L ++ σ)) w ∧ as.length = zs.length := ⟨h.hOpen.drop, h.hOpen.fact⟩
theorem Sat.dxClose (hl : as.length = zs.length) (h : Sat w0 M (hown e A C (shadD zs as) :: (L ++ σ)) w) : Sat w0 M (hdeepX e e' e'' A C as zs L :: σ) w := Sat.hClose (Sat.addFact hl h)
theorem Sat.dAt (hl : as.length = zs.length) {i : Nat} {z : α} (hz : zs[i]? = some z) : ∃ (B : Option Addr) (D : Nat) (Bs : List (Option Addr × Nat)), as[i]? = some (B, D, Bs) :=
  ⟨_, _, _, List.getElem?_eq_getElem (by rw [hl]; exact lt_of_get hz)⟩
theorem Sat.rowsLenD (hs : Sat w0 M σ w) (q : Nat) (hq : σ[q]? = some (hdeepX e e' e'' A C as zs L)) : as.length = zs.length := (hs.front q hq).dxOpen.2
theorem Sat.rowAtD (hs : Sat w0 M σ w) (q : Nat) (hq : σ[q]? = some (hdeepX e e' e'' A C as zs L)) {i : Nat} {z : α} (hz : zs[i]? = some z) : ∃ (B : Option Addr) (D : Nat) (Bs : List (Option Addr × Nat)), as[i]? = some (B, D, Bs) := Sat.dAt (hs.rowsLenD q hq) hz
theorem Sat.rowsCapD (hs : Sat w0 M σ w) (q : Nat) (hq : σ[q]? = some (hdeepX e e' e'' A C as zs L)) : zs.length ≤ C ∧ C ≤ maxLen := by
  obtain ⟨h, hl⟩ := (hs.front q hq).dxOpen
  have := h.ownView 0 rfl
  have h2 := this.cap
  rw [shadD_length hl] at h2
  exact ⟨h2, this.most⟩
theorem Sat.rowsSomeD (hs : Sat w0 M σ w) (q : Nat) (hq : σ[q]? = some (hdeepX e e' e'' A C as zs L)) {i : Nat} {z : α} (hz : zs[i]? = some z) : A.isSome = true := by
  obtain ⟨hs1, hl⟩ := (hs.front q hq).dxOpen
  obtain ⟨B, D, Bs, ha⟩ := Sat.dAt hl hz
  exact (hs1.ownView 0 rfl).some_ (lt_of_get (shadD_get (T := T) hz ha))
section
variable {i : Nat} {z : α} {B : Option Addr} {D : Nat} {Bs : List (Option Addr × Nat)}
theorem Sat.dPart (hs : Sat w0 M σ w) (q : Nat) (hq : σ[q]? = some (hdeep e e' e'' A C as zs)) (hz : zs[i]? = some z) (ha : as[i]? = some (B, D, Bs)) : ∃ σ', Sat w0 M (hrows e' e'' B D Bs (Row2.inner z) :: σ') w := by
  have h := (hs.front q hq).dxOpen.1
  have hst := starD_get (e' := e') (e'' := e'') hz ha
  exact ⟨_, h.front (1 + i) (by rw [Nat.add_comm, List.getElem?_cons_succ, List.getElem?_append_left (lt_of_get hst)]; exact hst)⟩
theorem Sat.rowViewD (hs : Sat w0 M σ w) (q : Nat) (hq : σ[q]? = some (hdeep e e' e'' A C as zs)) (hz : zs[i]? = some z) (ha : as[i]? = some (B, D, Bs)) : View w (old w none_) B D (Row2.inner z) := by
  obtain ⟨σ', h⟩ := hs.dPart q hq hz ha
  exact h.rowsView 0 rfl
theorem Sat.row2At (hs : Sat w0 M σ w) (q : Nat) (hq : σ[q]? = some (hdeep e e' e'' A C as zs)) (hz : zs[i]? = some z) (ha : as[i]? = some (B, D, Bs)) {j : Nat} {y : β} (hy : (Row2.inner z)[j]? = some y) : ∃ (B2 : Option Addr) (D2 : Nat), Bs[j]? = some (B2, D2) := by
  obtain ⟨σ', h⟩ := hs.dPart q hq hz ha
  exact h.rowAt 0 rfl hy
theorem Sat.row2View (hs : Sat w0 M σ w) (q : Nat) (hq : σ[q]? = some (hdeep e e' e'' A C as zs)) (hz : zs[i]? = some z) (ha : as[i]? = some (B, D, Bs)) {j : Nat} {y : β} (hy : (Row2.inner z)[j]? = some y) {B2 : Option Addr} {D2 : Nat} (hb : Bs[j]? = some (B2, D2)) : View w (old w none_) B2 D2 (Row1.inner y) := by
  obtain ⟨σ', h⟩ := hs.dPart q hq hz ha
  exact h.rowView 0 rfl hy hb
end
theorem Sat.rowsViewD (hs : Sat w0 M σ w) (q : Nat) (hq : σ[q]? = some (hdeep e e' e'' A C as zs)) : View w (old w none_) A C zs := by
  obtain ⟨h1, h2⟩ := hs.rowsCapD q hq
  refine ⟨h1, h2, fun i z hz => ?_⟩
  obtain ⟨B, D, Bs, ha⟩ := hs.rowAtD q hq hz
  have hv := hs.rowViewD q hq hz ha
  have := ((hs.front q hq).dxOpen.1.ownView 0 rfl).flat (shadD_get hz ha)
  exact ⟨_, by rw [Row2.same]; exact this, Row2.rep hv⟩
variable {P : Program} {n : Nat} {fs : Fr} {a : Act} {o : Oper} {v : Value} {ops : Array Oper} {rest : List Oper} {Q : Exit → Act → World → Prop}
theorem V.loadRowsD (q : Nat) (hq : σ[q]? = some (hdeepX e e' e'' A C as zs L)) {i k' off m : Nat} {z : α} {B : Option Addr} {D : Nat} {Bs : List (Option Addr × Nat)} (hz : zs[i]? = some z) (ha : as[i]? = some (B, D, Bs)) {t : TypeId} {x : Operand} {agg : Bool} (ho : o.op = .load t x) (hx : ev fs x = some (elemPtr A k'))
    (hk : k' = i * Flat.sz T + off) (hag : ∀ w, (isAgg t).run P w = .ok agg w) (hsz : ∀ w, (Go.sizeOf t).run P w = .ok m w) (hl : (((Flat.enc (Row2.sh z B D)).drop off).take m).length = m) (hv : mkv agg (((Flat.enc (Row2.sh z B D)).drop off).take m) = some v) :
    ∀ a w, FrOk n fs a → Sat w0 M σ w → RunV P o a w v := fun a w hf hs =>
  V.loadOwn 0 rfl (shadD_get hz ha) ho hx hk hag hsz hl hv a w hf (hs.front q hq).dxOpen.1
theorem V.loadRow2 (q : Nat) (hq : σ[q]? = some (hdeep e e' e'' A C as zs)) {i j k' off m : Nat} {z : α} {B : Option Addr} {D : Nat} {Bs : List (Option Addr × Nat)} (hz : zs[i]? = some z) (ha : as[i]? = some (B, D, Bs)) {y : β} (hy : (Row2.inner z)[j]? = some y) {B2 : Option Addr} {D2 : Nat} (hb : Bs[j]? = some (B2, D2)) {t : TypeId} {x : Operand} {agg : Bool} (ho : o.op = .load t x) (hx : ev fs x = some (elemPtr B k'))
    (hk : k' = j * Flat.sz U + off) (hag : ∀ w, (isAgg t).run P w = .ok agg w) (hsz : ∀ w, (Go.sizeOf t).run P w = .ok m w) (hl : (((Flat.enc (Row1.sh y B2 D2)).drop off).take m).length = m) (hv : mkv agg (((Flat.enc (Row1.sh y B2 D2)).drop off).take m) = some v) :
    ∀ a w, FrOk n fs a → Sat w0 M σ w → RunV P o a w v := fun a w hf hs => by
  obtain ⟨σ', h⟩ := hs.dPart q hq hz ha
  exact V.loadRows 0 rfl hy hb ho hx hk hag hsz hl hv a w hf h
theorem V.loadRow2El (q : Nat) (hq : σ[q]? = some (hdeep e e' e'' A C as zs)) {i j l k' off m : Nat} {z : α} {B : Option Addr} {D : Nat} {Bs : List (Option Addr × Nat)} (hz : zs[i]? = some z) (ha : as[i]? = some (B, D, Bs)) {y : β} (hy : (Row2.inner z)[j]? = some y) {B2 : Option Addr} {D2 : Nat} (hb : Bs[j]? = some (B2, D2)) {u : γ} (hu : (Row1.inner y)[l]? = some u) {t : TypeId} {x : Operand} {agg : Bool} (ho : o.op = .load t x) (hx : ev fs x = some (elemPtr B2 k'))
    (hk : k' = l * Flat.sz γ + off) (hag : ∀ w, (isAgg t).run P w = .ok agg w) (hsz : ∀ w, (Go.sizeOf t).run P w = .ok m w) (hl : (((Flat.enc u).drop off).take m).length = m) (hv : mkv agg (((Flat.enc u).drop off).take m) = some v) :
    ∀ a w, FrOk n fs a → Sat w0 M σ w → RunV P o a w v := fun a w hf hs => by
  obtain ⟨σ', h⟩ := hs.dPart q hq hz ha
  exact V.loadRowEl 0 rfl hy hb hu ho hx hk hag hsz hl hv a w hf h
theorem S.putRowD (q : Nat) (hf : FrOk n fs a) {B : Option Addr} {D : Nat} {Bs : List (Option Addr × Nat)} {ys : List β} (hs : Sat w0 M (hrows e' e'' B D Bs ys :: σ) w) (hg : gv ops fs o = some true) (hd : o.dst = none) {t : TypeId} {x y : Operand} {i k' off m : Nat} {z : α} (z' : α) {B0 : Option Addr} {D0 : Nat} {Bs0 : List (Option Addr × Nat)} (us : List Value)
    (hq : σ[q]? = some (hdeep e e' e'' A C as zs)) (hz : zs[i]? = some z) (ha : as[i]? = some (B0, D0, Bs0)) (hz' : Row2.inner z' = ys)
    (ho : o.op = .store t x y) (hx : ev fs x = some (elemPtr A k')) (hk : k' = i * Flat.sz T + off) (hy : ev fs y = some v) (hv : v.cells = us.toArray)
    (hsz : ∀ w, (Go.sizeOf t).run P w = .ok m w) (hl : us.length = m) (hfit : off + m ≤ Flat.sz T) (h1 : us.all (·.oneCell') = true) (hvs : (Flat.enc (Row2.sh z B0 D0)).take off ++ us ++ (Flat.enc (Row2.sh z B0 D0)).drop (off + m) = Flat.enc (Row2.sh z' B D))
    (k : ∀ a w', FrOk n fs a → Sat w0 M (σ.set q (hdeep e e' e'' A C (as.set i (B, D, Bs)) (zs.set i z'))) w' → wpList P ops Q rest a w') : wpList P ops Q (o :: rest) a w := by
  have hs0 : Sat w0 M (hdeep e e' e'' A C as zs :: hrows e' e'' B D Bs ys :: σ.eraseIdx q) w := (hs.front (q + 1) (by simpa using hq)).perm (by simp)
  obtain ⟨hs1, hlen⟩ := hs0.dxOpen
  have hst := starD_get (e' := e') (e'' := e'') hz ha
  refine S.storeOwn 0 hf hs1 hg hd (Row2.sh z' B D) us rfl (shadD_get hz ha) ho hx hk hy hv hsz hl hfit h1 hvs (fun a w' hf hs2 => k a w' hf ?_)
  refine Sat.unfront hq (Sat.dxClose (by simp [hlen]) ?_)
  have e1 : shadD (zs.set i z') (as.set i (B, D, Bs)) = (shadD zs as).set i (Row2.sh z' B D) := (zipWith_set' (fun z (a : Dp) => Row2.sh z a.1 a.2.1) zs as i z' (B, D, Bs)).symm
  have e2 : starD e' e'' (zs.set i z') (as.set i (B, D, Bs)) = (starD e' e'' zs as).set i (hrows e' e'' B D Bs ys) := by
    have := (zipWith_set' (partD e' e'') zs as i z' (B, D, Bs)).symm
    rw [← hz']; exact this
  rw [e1, e2]
  have hs3 : Sat w0 M (hown e A C ((shadD zs as).set i (Row2.sh z' B D)) :: (starD e' e'' zs as ++ hrows e' e'' B D Bs ys :: σ.eraseIdx q)) w' := hs2
  have hp : (hown e A C ((shadD zs as).set i (Row2.sh z' B D)) :: (starD e' e'' zs as ++ hrows e' e'' B D Bs ys :: σ.eraseIdx q)).Perm (partD e' e'' z (B0, D0, Bs0) :: (hown e A C ((shadD zs as).set i (Row2.sh z' B D)) :: ((starD e' e'' zs as).set i (hrows e' e'' B D Bs ys) ++ σ.eraseIdx q))) := by
    refine (List.Perm.cons _ (List.perm_middle)).trans ?_
    refine (List.Perm.cons _ ?_).trans (List.Perm.swap _ _ _)
    exact (star_put (starD e' e'' zs as) i (hrows e' e'' B D Bs ys) _ hst).append_right (σ.eraseIdx q)
  exact (hs3.perm hp).drop
theorem Sat.fromRowsD (hs : Sat w0 M σ w) (q : Nat) (hq : σ[q]? = some (hdeep e e' e'' A C as zs)) : Sat w0 M (σ.set q (hdeepF e e' e'' A C as zs 0)) w := by
  have e1 : hdeepF e e' e'' A C as zs 0 = hdeep e e' e'' A C as zs := rfl
  rw [e1, set_self σ q _ hq]; exact hs
theorem Sat.fromNextD (hs : Sat w0 M σ w) (q : Nat) {k : Nat} (hq : σ[q]? = some (hdeepF e e' e'' A C as zs k)) {z : α} (hz : zs[k]? = some z) : Sat w0 M (σ.set q (hdeepF e e' e'' A C as zs (k + 1))) w := by
  obtain ⟨hs1, hlen⟩ := (hs.front q hq).dxOpen
  obtain ⟨B, D, Bs, ha⟩ := Sat.dAt hlen hz
  rw [rows_drop_get _ _ _ (starD_get (e' := e') (e'' := e'') hz ha)] at hs1
  exact Sat.backIn hq (Sat.dxClose (e' := e') (e'' := e'') hlen ((hs1.perm (List.Perm.swap _ _ _)).drop))
theorem Sat.takeRowDF (hs : Sat w0 M σ w) (q : Nat) {k : Nat} (hq : σ[q]? = some (hdeepF e e' e'' A C as zs k)) {z : α} {B : Option Addr} {D : Nat} {Bs : List (Option Addr × Nat)} (hz : zs[k]? = some z) (ha : as[k]? = some (B, D, Bs)) : Sat w0 M (hrows e' e'' B D Bs (Row2.inner z) :: σ.set q (hdeepF e e' e'' A C as zs (k + 1))) w := by
  obtain ⟨hs1, hlen⟩ := (hs.front q hq).dxOpen
  rw [rows_drop_get _ _ _ (starD_get (e' := e') (e'' := e'') hz ha)] at hs1
  have hp : (hown e A C (shadD zs as) :: (partD e' e'' z (B, D, Bs) :: (starD e' e'' zs as).drop (k + 1) ++ σ.eraseIdx q)).Perm (hown e A C (shadD zs as) :: ((starD e' e'' zs as).drop (k + 1) ++ partD e' e'' z (B, D, Bs) :: σ.eraseIdx q)) :=
    List.Perm.cons _ List.perm_middle.symm
  have h2 := Sat.dxClose (e' := e') (e'' := e'') hlen (hs1.perm hp)
  have h3 : Sat w0 M (hrows e' e'' B D Bs (Row2.inner z) :: hdeepF e e' e'' A C as zs (k + 1) :: σ.eraseIdx q) w := h2.perm (List.Perm.swap _ _ _)
  refine h3.perm (List.Perm.cons _ ?_)
  have := perm_front q (σ.set q (hdeepF e e' e'' A C as zs (k + 1))) _ (getElem?_set_self' σ q _ _ hq)
  rw [eraseIdx_set] at this
  exact this.symm
theorem Sat.nilRowsD (hs : Sat w0 M σ w) (e e' e'' : TypeId) : Sat w0 M (hdeep e e' e'' none 0 ([] : List Dp) ([] : List α) :: σ) w :=
  Sat.dxClose rfl (hs.nilOwn (α := T) e)
theorem Sat.nilsD (h : Sat w0 M σ w) {z : α} (hz : Row2.inner z = []) (e' e'' : TypeId) : ∀ N : Nat, Sat w0 M (List.replicate N (partD e' e'' z (none, 0, [])) ++ σ) w
  | 0 => h
  | N + 1 => by
    have h1 := Sat.nilRows (α := β) (Sat.nilsD h hz e' e'' N) e' e''
    rw [← hz] at h1
    exact h1
theorem S.makeRowsD (hf : FrOk n fs a) (hs : Sat w0 M σ w) {d : Nat} (hg : gv ops fs o = some true) (hd : o.dst = some d) (hdn : Nat.blt d n = true) (zero : α) {t : TypeId} {x y : Operand} {z : Int} {N bytes : Nat} (e' e'' : TypeId)
    (hz0 : Row2.inner zero = []) (ho : o.op = .makeSlice t x y) (hx : ev fs x = some (.int .i64 z)) (hy : ev fs y = some (.int .i64 z)) (ht : P.underlying t = some (.slice e)) (hi : TyInfo P e (Flat.sz T) bytes (Flat.enc (Row2.sh zero none 0)))
    (hmk : 0 ≤ z ∧ z * bytes ≤ 281474976710656) (hN : z.toNat = N) (h63 : z ≤ 9223372036854775807)
    (k : ∀ A a w', FrOk n ((d, .slice A (List.replicate N zero).length N) :: fs) a → Sat w0 M (hdeep e e' e'' A N (List.replicate N ((none, 0, []) : Dp)) (List.replicate N zero) :: σ) w' → wpList P ops Q rest a w') : wpList P ops Q (o :: rest) a w := by
  refine S.make hf hs hg hd hdn (Row2.sh zero none 0) ho hx hy ht hi hmk hN h63 (fun A a w' hf hs2 => k A a w' (by simpa using hf) ?_)
  refine Sat.dxClose (by simp) ?_
  have e1 : shadD (List.replicate N zero) (List.replicate N ((none, 0, []) : Dp)) = List.replicate N (Row2.sh zero none 0) := by unfold shadD; simp
  have e2 : starD e' e'' (List.replicate N zero) (List.replicate N ((none, 0, []) : Dp)) = List.replicate N (partD e' e'' zero (none, 0, [])) := by unfold starD; simp
  rw [e1, e2]
  exact (Sat.nilsD hs2 hz0 e' e'' N).perm List.perm_middle
theorem S.appendRowD (q : Nat) (hf : FrOk n fs a) {B : Option Addr} {D : Nat} {Bs : List (Option Addr × Nat)} {ys : List β} (hs : Sat w0 M (hrows e' e'' B D Bs ys :: σ) w) {d : Nat} (hg : gv ops fs o = some true) (hd : o.dst = some d) (hdn : Nat.blt d n = true) (z : α) (hz : Row2.inner z = ys) {x y : Operand} {t : TypeId} {A2 : Option Addr} {C2 bytes : Nat} {zc : List Value}
    (hq : σ[q]? = some (hdeep e e' e'' A C as zs)) (ho : o.op = .call ⟨.builtin .append, #[x, y], #[t, t]⟩) (hx : ev fs x = some (.slice A zs.length C)) (hy : ev fs y = some (.slice A2 1 C2)) (ht : P.underlying t = some (.slice e)) (hi : TyInfo P e (Flat.sz T) bytes zc) (hzc : zc.length = Flat.sz T) (hroom : room (zs ++ [z]).length bytes)
    (hA2 : A2.isSome = true) (hv : View w (old w none_) A2 C2 [Row2.sh z B D])
    (k : ∀ A' C' a w', FrOk n ((d, .slice A' (zs ++ [z]).length C') :: fs) a → Sat w0 M (σ.set q (hdeep e e' e'' A' C' (as ++ [(B, D, Bs)]) (zs ++ [z]))) w' → wpList P ops Q rest a w') : wpList P ops Q (o :: rest) a w := by
  have hs0 : Sat w0 M (hdeep e e' e'' A C as zs :: hrows e' e'' B D Bs ys :: σ.eraseIdx q) w := (hs.front (q + 1) (by simpa using hq)).perm (by simp)
  obtain ⟨hs1, hlen⟩ := hs0.dxOpen
  have hsl := shadD_length (T := T) hlen
  refine S.appendCells 0 hf hs1 hg hd hdn rfl ho (by rw [hsl]; exact hx) hy ht hi hzc (by rw [List.length_append, hsl]; simpa using hroom) hA2 hv (fun A' C' a w' hf hs2 => k A' C' a w' (by rw [List.length_append, hsl] at hf; simpa using hf) ?_)
  refine Sat.unfront hq (Sat.dxClose (by simp [hlen]) ?_)
  have e1 : shadD (zs ++ [z]) (as ++ [(B, D, Bs)]) = shadD zs as ++ [Row2.sh z B D] := by unfold shadD; rw [List.zipWith_append hlen.symm]; rfl
  have e2 : starD e' e'' (zs ++ [z]) (as ++ [(B, D, Bs)]) = starD e' e'' zs as ++ [hrows e' e'' B D Bs ys] := by unfold starD; rw [List.zipWith_append hlen.symm, ← hz]; rfl
  rw [e1, e2, List.append_assoc]
  exact hs2
end
end Go.Proofs.YtihjaehkdgdenaaGreatDoor
