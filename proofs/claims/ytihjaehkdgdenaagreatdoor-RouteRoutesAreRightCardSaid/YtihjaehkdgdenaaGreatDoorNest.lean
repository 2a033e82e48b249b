/- Chapter texts of ours, as far as the claim needs them. -/
import Derived.Test.YtihjaehkdgdenaaGreatDoorOwn
namespace Go.Proofs.YtihjaehkdgdenaaGreatDoor
open Go Go.RowKit
set_option linter.unusedVariables false
set_option linter.unusedSectionVars false
set_option linter.unusedSimpArgs false
structure Sl where
  a : Option Addr
  n : Nat
  c : Nat
instance : Flat Sl := ⟨1, Nat.one_pos, fun s => [.slice s.a s.n s.c], fun _ => rfl, fun _ v hv => by simp at hv; subst hv; rfl⟩
class Row1 (α : Type) (β T : outParam Type) [Rep α] [Flat β] [Flat T] where
  inner : α → List β
  sh : α → Option Addr → Nat → T
  rep : ∀ {w F A C z}, View w F A C (inner z) → Rep.rd w F (Flat.enc (sh z A C)) z
  same : Rep.sz α = Flat.sz T
instance instRow1List {β : Type} [Flat β] : Row1 (List β) β Sl := ⟨fun x => x, fun x A C => ⟨A, x.length, C⟩, fun h => ⟨_, _, rfl, h⟩, rfl⟩
section
variable {α β T : Type} [Rep α] [Flat β] [Flat T] [Row1 α β T]
def shad (zs : List α) (as : List (Option Addr × Nat)) : List T := zs.zipWith (fun z a => Row1.sh z a.1 a.2) as
def starL (e' : TypeId) (zs : List α) (as : List (Option Addr × Nat)) : List HProp := zs.zipWith (fun z a => hown e' a.1 a.2 (Row1.inner z)) as
def hrowsX (e e' : TypeId) (A : Option Addr) (C : Nat) (as : List (Option Addr × Nat)) (zs : List α) (L : List HProp) : HProp :=
  ⟨fun w F => as.length = zs.length ∧ ∃ F1 : Nat → Prop, (hown e A C (shad zs as)).holds w F1 ∧ (∀ b, F1 b → F b) ∧ SatU w F L F1,
    fun ⟨hl, F1, h1, h2, h3⟩ hb => ⟨hl, F1, (hown e A C (shad zs as)).loc h1 (fun b h => hb b (h2 b h)), h2, SatU.mono h3 (fun _ h => h) (fun _ _ h => h) (fun b hz _ => hb b hz)⟩⟩
def hrows (e e' : TypeId) (A : Option Addr) (C : Nat) (as : List (Option Addr × Nat)) (zs : List α) : HProp := hrowsX e e' A C as zs (starL e' zs as)
def hrowsH (e e' : TypeId) (A : Option Addr) (C : Nat) (as : List (Option Addr × Nat)) (zs : List α) (i : Nat) : HProp := hrowsX e e' A C as zs ((starL e' zs as).eraseIdx i)
theorem shad_get {zs : List α} {as : List (Option Addr × Nat)} {i : Nat} {z : α} {a : Option Addr × Nat} (hz : zs[i]? = some z) (ha : as[i]? = some a) : (shad zs as)[i]? = some (Row1.sh z a.1 a.2) := by
  unfold shad; rw [List.getElem?_zipWith, hz, ha]
theorem starL_get {e' : TypeId} {zs : List α} {as : List (Option Addr × Nat)} {i : Nat} {z : α} {a : Option Addr × Nat} (hz : zs[i]? = some z) (ha : as[i]? = some a) : (starL e' zs as)[i]? = some (hown e' a.1 a.2 (Row1.inner z)) := by
  unfold starL; rw [List.getElem?_zipWith, hz, ha]
theorem zipWith_set' {X Y Z : Type} (f : X → Y → Z) : ∀ (xs : List X) (ys : List Y) (i : Nat) (x : X) (y : Y), (xs.zipWith f ys).set i (f x y) = (xs.set i x).zipWith f (ys.set i y)
  | [], _, i, _, _ => by simp
  | _ :: _, [], i, _, _ => by cases i <;> simp
  | _ :: _, _ :: _, 0, _, _ => by simp
  | _ :: xs, _ :: ys, i + 1, x, y => by simp [zipWith_set' f xs ys i x y]
theorem shad_length {zs : List α} {as : List (Option Addr × Nat)} (h : as.length = zs.length) : (shad zs as).length = zs.length := by unfold shad; rw [List.length_zipWith]; omega
theorem set_self {X : Type} : ∀ (l : List X) (i : Nat) (x : X), l[i]? = some x → l.set i x = l
  | [], i, x, h => by simp
  | y :: l, 0, x, h => by simp at h; simp [h]
  | y :: l, i + 1, x, h => by simp at h; simp [set_self l i x h]
variable {w w0 : World} {M : Nat → Prop} {σ L : List HProp} {p q : HProp} {e e' : TypeId} {A : Option Addr} {C : Nat} {zs : List α} {as : List (Option Addr × Nat)}
theorem SatU.append {Z F : Nat → Prop} {σ : List HProp} : ∀ {L : List HProp} {U V : Nat → Prop}, SatU w F L U → (∀ b, F b → Z b) → (∀ b, F b → ¬ U b → ¬ V b) → SatU w Z σ (fun b => V b ∨ F b) → SatU w Z (L ++ σ) V
  | [], U, V, _, hZ, hV, h => SatU.mono h (fun _ h => h) (fun b _ hn e => hn (.inl e)) (fun _ _ _ => rfl)
  | p :: L, U, V, ⟨G, hp, hG, hr⟩, hZ, hV, h => ⟨G, hp, fun b hb => ⟨hZ b (hG b hb).1, hV b (hG b hb).1 (hG b hb).2⟩,
      SatU.append (L := L) hr hZ (fun b hf hn e => e.elim (hV b hf (fun h => hn (.inl h))) (fun h => hn (.inr h))) (SatU.mono h (fun _ h => h) (fun b _ hn e => hn (by
        rcases e with (e | e) | e
        · exact .inl e
        · exact .inr (hG b e).1
        · exact .inr e)) (fun _ _ _ => rfl))⟩
theorem Sat.xOpen (h : Sat w0 M (hrowsX e e' A C as zs L :: σ) w) : Sat w0 M (hown e A C (shad zs as) :: (L ++ σ)) w ∧ as.length = zs.length := by
  obtain ⟨F, ⟨hl, F1, h1, h2, h3⟩, hF, hr⟩ := h.sat
  refine ⟨⟨h.keeps, F1, h1, fun b hb => hF b (h2 b hb), ?_⟩, hl⟩
  refine SatU.append (F := F) h3 (fun b hb => (hF b hb).1) (fun b hf hn e => ?_) (SatU.mono hr (fun _ h => h) (fun b _ hn e => hn ?_) (fun _ _ _ => rfl))
  · rcases e with e | e
    · exact e
    · exact hn e
  · rcases e with (e | e) | e
    · exact .inl e
    · exact .inr (h2 b e)
    · exact .inr e
theorem Sat.xClose (hl : as.length = zs.length) (h : Sat w0 M (hown e A C (shad zs as) :: (L ++ σ)) w) : Sat w0 M (hrowsX e e' A C as zs L :: σ) w := by
  obtain ⟨F1, h1, hF1, hr⟩ := h.sat
  obtain ⟨F2, hF2, hL, hσ⟩ := SatU.parts hr
  refine ⟨h.keeps, fun b => F1 b ∨ F2 b, ⟨hl, F1, h1, fun b hb => .inl hb, SatU.mono hL (fun b hb => .inr hb) (fun b _ hn e => hn (.inr e)) (fun _ _ _ => rfl)⟩, fun b hb => ?_, SatU.mono hσ (fun _ h => h) (fun b _ hn e => hn ?_) (fun _ _ _ => rfl)⟩
  · rcases hb with hb | hb
    · exact hF1 b hb
    · exact ⟨(hF2 b hb).1, fun e => (hF2 b hb).2 (.inl e)⟩
  · rcases e with e | e | e
    · exact .inl (.inl e)
    · exact .inl (.inr e)
    · exact .inr e
theorem Sat.unfront {p' : HProp} {k : Nat} (hk : σ[k]? = some p) (h : Sat w0 M (p' :: σ.eraseIdx k) w) : Sat w0 M (σ.set k p') w := by
  refine h.perm ?_
  have := perm_front k (σ.set k p') p' (getElem?_set_self' σ k p' p hk)
  rw [eraseIdx_set] at this
  exact this.symm
theorem Sat.rowsLen (hs : Sat w0 M σ w) (q : Nat) (hq : σ[q]? = some (hrows e e' A C as zs)) : as.length = zs.length := (hs.front q hq).xOpen.2
theorem Sat.rowAt (hs : Sat w0 M σ w) (q : Nat) (hq : σ[q]? = some (hrows e e' A C as zs)) {i : Nat} {z : α} (hz : zs[i]? = some z) : ∃ (B : Option Addr) (D : Nat), as[i]? = some (B, D) :=
  ⟨_, _, List.getElem?_eq_getElem (by rw [hs.rowsLen q hq]; exact lt_of_get hz)⟩
theorem Sat.rowView (hs : Sat w0 M σ w) (q : Nat) (hq : σ[q]? = some (hrows e e' A C as zs)) {i : Nat} {z : α} {B : Option Addr} {D : Nat} (hz : zs[i]? = some z) (ha : as[i]? = some (B, D)) : View w (old w none_) B D (Row1.inner z) :=
  (hs.front q hq).xOpen.1.ownView (1 + i) (by rw [Nat.add_comm, List.getElem?_cons_succ, List.getElem?_append_left (lt_of_get (starL_get hz ha))]; exact starL_get hz ha)
theorem Sat.rowsCap (hs : Sat w0 M σ w) (q : Nat) (hq : σ[q]? = some (hrows e e' A C as zs)) : zs.length ≤ C ∧ C ≤ maxLen := by
  obtain ⟨h, hl⟩ := (hs.front q hq).xOpen
  have := h.ownView 0 rfl
  have h2 := this.cap
  rw [shad_length hl] at h2
  exact ⟨h2, this.most⟩
theorem Sat.rowsView (hs : Sat w0 M σ w) (q : Nat) (hq : σ[q]? = some (hrows e e' A C as zs)) : View w (old w none_) A C zs := by
  obtain ⟨h1, h2⟩ := hs.rowsCap q hq
  refine ⟨h1, h2, fun i z hz => ?_⟩
  obtain ⟨B, D, ha⟩ := hs.rowAt q hq hz
  have hv := hs.rowView q hq hz ha
  have := ((hs.front q hq).xOpen.1.ownView 0 rfl).flat (shad_get hz ha)
  exact ⟨_, by rw [Row1.same]; exact this, Row1.rep hv⟩
theorem Sat.rowsSome (hs : Sat w0 M σ w) (q : Nat) (hq : σ[q]? = some (hrows e e' A C as zs)) {i : Nat} {z : α} (hz : zs[i]? = some z) : A.isSome = true := (hs.rowsView q hq).some_ (lt_of_get hz)
variable {P : Program} {n : Nat} {fs : Fr} {a : Act} {o : Oper} {v : Value} {ops : Array Oper} {rest : List Oper} {Q : Exit → Act → World → Prop}
theorem V.loadRows (q : Nat) (hq : σ[q]? = some (hrows e e' A C as zs)) {i k' off m : Nat} {z : α} {B : Option Addr} {D : Nat} (hz : zs[i]? = some z) (ha : as[i]? = some (B, D)) {t : TypeId} {x : Operand} {agg : Bool} (ho : o.op = .load t x) (hx : ev fs x = some (elemPtr A k'))
    (hk : k' = i * Flat.sz T + off) (hag : ∀ w, (isAgg t).run P w = .ok agg w) (hsz : ∀ w, (Go.sizeOf t).run P w = .ok m w) (hl : (((Flat.enc (Row1.sh z B D)).drop off).take m).length = m) (hv : mkv agg (((Flat.enc (Row1.sh z B D)).drop off).take m) = some v) :
    ∀ a w, FrOk n fs a → Sat w0 M σ w → RunV P o a w v := fun a w hf hs =>
  V.loadOwn 0 rfl (shad_get hz ha) ho hx hk hag hsz hl hv a w hf (hs.front q hq).xOpen.1
theorem V.loadRowEl (q : Nat) (hq : σ[q]? = some (hrows e e' A C as zs)) {i : Nat} {z : α} {B : Option Addr} {D : Nat} (hz : zs[i]? = some z) (ha : as[i]? = some (B, D)) {j k' off m : Nat} {y : β} (hy : (Row1.inner z)[j]? = some y) {t : TypeId} {x : Operand} {agg : Bool} (ho : o.op = .load t x) (hx : ev fs x = some (elemPtr B k'))
    (hk : k' = j * Flat.sz β + off) (hag : ∀ w, (isAgg t).run P w = .ok agg w) (hsz : ∀ w, (Go.sizeOf t).run P w = .ok m w) (hl : (((Flat.enc y).drop off).take m).length = m) (hv : mkv agg (((Flat.enc y).drop off).take m) = some v) :
    ∀ a w, FrOk n fs a → Sat w0 M σ w → RunV P o a w v := fun a w hf hs =>
  V.loadOwn (1 + i) (by rw [Nat.add_comm, List.getElem?_cons_succ, List.getElem?_append_left (lt_of_get (starL_get hz ha))]; exact starL_get hz ha) hy ho hx hk hag hsz hl hv a w hf (hs.front q hq).xOpen.1
theorem star_put {X : Type} : ∀ (l : List X) (i : Nat) (x y : X), l[i]? = some y → (x :: l).Perm (y :: l.set i x)
  | [], i, x, y, h => by simp at h
  | z :: l, 0, x, y, h => by simp at h; subst h; exact List.Perm.swap _ _ _
  | z :: l, i + 1, x, y, h => by
    simp at h
    exact (List.Perm.swap _ _ _).trans (((star_put l i x y h).cons z).trans (List.Perm.swap _ _ _))
theorem S.putRow (q : Nat) (hf : FrOk n fs a) {B : Option Addr} {D : Nat} {ys : List β} (hs : Sat w0 M (hown e' B D ys :: σ) w) (hg : gv ops fs o = some true) (hd : o.dst = none) {t : TypeId} {x y : Operand} {i k' off m : Nat} {z : α} (z' : α) {B0 : Option Addr} {D0 : Nat} (us : List Value)
    (hq : σ[q]? = some (hrows e e' A C as zs)) (hz : zs[i]? = some z) (ha : as[i]? = some (B0, D0)) (hz' : Row1.inner z' = ys)
    (ho : o.op = .store t x y) (hx : ev fs x = some (elemPtr A k')) (hk : k' = i * Flat.sz T + off) (hy : ev fs y = some v) (hv : v.cells = us.toArray)
    (hsz : ∀ w, (Go.sizeOf t).run P w = .ok m w) (hl : us.length = m) (hfit : off + m ≤ Flat.sz T) (h1 : us.all (·.oneCell') = true) (hvs : (Flat.enc (Row1.sh z B0 D0)).take off ++ us ++ (Flat.enc (Row1.sh z B0 D0)).drop (off + m) = Flat.enc (Row1.sh z' B D))
    (k : ∀ a w', FrOk n fs a → Sat w0 M (σ.set q (hrows e e' A C (as.set i (B, D)) (zs.set i z'))) w' → wpList P ops Q rest a w') : wpList P ops Q (o :: rest) a w := by
  have hs0 : Sat w0 M (hrows e e' A C as zs :: hown e' B D ys :: σ.eraseIdx q) w := (hs.front (q + 1) (by simpa using hq)).perm (by simp)
  obtain ⟨hs1, hlen⟩ := hs0.xOpen
  have hst := starL_get (e' := e') hz ha
  refine S.storeOwn 0 hf hs1 hg hd (Row1.sh z' B D) us rfl (shad_get hz ha) ho hx hk hy hv hsz hl hfit h1 hvs (fun a w' hf hs2 => k a w' hf ?_)
  refine Sat.unfront hq (Sat.xClose (by simp [hlen]) ?_)
  have e1 : shad (zs.set i z') (as.set i (B, D)) = (shad zs as).set i (Row1.sh z' B D) := (zipWith_set' (fun z (a : Option Addr × Nat) => Row1.sh z a.1 a.2) zs as i z' (B, D)).symm
  have e2 : starL e' (zs.set i z') (as.set i (B, D)) = (starL e' zs as).set i (hown e' B D ys) := by
    have := (zipWith_set' (fun z (a : Option Addr × Nat) => hown e' a.1 a.2 (Row1.inner z)) zs as i z' (B, D)).symm
    rw [← hz']; exact this
  rw [e1, e2]
  have hs3 : Sat w0 M (hown e A C ((shad zs as).set i (Row1.sh z' B D)) :: (starL e' zs as ++ hown e' B D ys :: σ.eraseIdx q)) w' := hs2
  have hp : (hown e A C ((shad zs as).set i (Row1.sh z' B D)) :: (starL e' zs as ++ hown e' B D ys :: σ.eraseIdx q)).Perm (hown e' B0 D0 (Row1.inner z) :: (hown e A C ((shad zs as).set i (Row1.sh z' B D)) :: ((starL e' zs as).set i (hown e' B D ys) ++ σ.eraseIdx q))) := by
    refine (List.Perm.cons _ (List.perm_middle)).trans ?_
    refine (List.Perm.cons _ ?_).trans (List.Perm.swap _ _ _)
    exact (star_put (starL e' zs as) i (hown e' B D ys) _ hst).append_right (σ.eraseIdx q)
  exact (hs3.perm hp).drop
theorem Sat.takeRow (hs : Sat w0 M σ w) (q : Nat) (hq : σ[q]? = some (hrows e e' A C as zs)) {i : Nat} {z : α} {B : Option Addr} {D : Nat} (hz : zs[i]? = some z) (ha : as[i]? = some (B, D)) : Sat w0 M (hown e' B D (Row1.inner z) :: σ.set q (hrowsH e e' A C as zs i)) w := by
  obtain ⟨hs1, hlen⟩ := (hs.front q hq).xOpen
  have hst := starL_get (e' := e') hz ha
  have hp : (hown e A C (shad zs as) :: (starL e' zs as ++ σ.eraseIdx q)).Perm (hown e A C (shad zs as) :: ((starL e' zs as).eraseIdx i ++ hown e' B D (Row1.inner z) :: σ.eraseIdx q)) := by
    refine List.Perm.cons _ (((perm_front i _ _ hst).append_right _).trans ?_)
    exact List.perm_middle.symm
  have h2 := Sat.xClose (e' := e') hlen (hs1.perm hp)
  have h3 : Sat w0 M (hown e' B D (Row1.inner z) :: hrowsH e e' A C as zs i :: σ.eraseIdx q) w := h2.perm (List.Perm.swap _ _ _)
  refine h3.perm (List.Perm.cons _ ?_)
  have := perm_front q (σ.set q (hrowsH e e' A C as zs i)) _ (getElem?_set_self' σ q _ _ hq)
  rw [eraseIdx_set] at this
  exact this.symm
theorem S.putBack (q : Nat) (hf : FrOk n fs a) {B : Option Addr} {D : Nat} {ys : List β} (hs : Sat w0 M (hown e' B D ys :: σ) w) (hg : gv ops fs o = some true) (hd : o.dst = none) {t : TypeId} {x y : Operand} {i k' off m : Nat} {z : α} (z' : α) {B0 : Option Addr} {D0 : Nat} (us : List Value)
    (hq : σ[q]? = some (hrowsH e e' A C as zs i)) (hz : zs[i]? = some z) (ha : as[i]? = some (B0, D0)) (hz' : Row1.inner z' = ys)
    (ho : o.op = .store t x y) (hx : ev fs x = some (elemPtr A k')) (hk : k' = i * Flat.sz T + off) (hy : ev fs y = some v) (hv : v.cells = us.toArray)
    (hsz : ∀ w, (Go.sizeOf t).run P w = .ok m w) (hl : us.length = m) (hfit : off + m ≤ Flat.sz T) (h1 : us.all (·.oneCell') = true) (hvs : (Flat.enc (Row1.sh z B0 D0)).take off ++ us ++ (Flat.enc (Row1.sh z B0 D0)).drop (off + m) = Flat.enc (Row1.sh z' B D))
    (k : ∀ a w', FrOk n fs a → Sat w0 M (σ.set q (hrows e e' A C (as.set i (B, D)) (zs.set i z'))) w' → wpList P ops Q rest a w') : wpList P ops Q (o :: rest) a w := by
  have hs0 : Sat w0 M (hrowsH e e' A C as zs i :: hown e' B D ys :: σ.eraseIdx q) w := (hs.front (q + 1) (by simpa using hq)).perm (by simp)
  obtain ⟨hs1, hlen⟩ := hs0.xOpen
  have hst := starL_get (e' := e') hz ha
  refine S.storeOwn 0 hf hs1 hg hd (Row1.sh z' B D) us rfl (shad_get hz ha) ho hx hk hy hv hsz hl hfit h1 hvs (fun a w' hf hs2 => k a w' hf ?_)
  refine Sat.unfront hq (Sat.xClose (by simp [hlen]) ?_)
  have e1 : shad (zs.set i z') (as.set i (B, D)) = (shad zs as).set i (Row1.sh z' B D) := (zipWith_set' (fun z (a : Option Addr × Nat) => Row1.sh z a.1 a.2) zs as i z' (B, D)).symm
  have e2 : starL e' (zs.set i z') (as.set i (B, D)) = (starL e' zs as).set i (hown e' B D ys) := by
    have := (zipWith_set' (fun z (a : Option Addr × Nat) => hown e' a.1 a.2 (Row1.inner z)) zs as i z' (B, D)).symm
    rw [← hz']; exact this
  rw [e1, e2]
  have hs3 : Sat w0 M (hown e A C ((shad zs as).set i (Row1.sh z' B D)) :: ((starL e' zs as).eraseIdx i ++ hown e' B D ys :: σ.eraseIdx q)) w' := hs2
  refine hs3.perm (List.Perm.cons _ (List.perm_middle.trans ?_))
  have := (perm_front i ((starL e' zs as).set i (hown e' B D ys)) _ (getElem?_set_self' _ i _ _ hst)).symm
  rw [eraseIdx_set] at this
  exact this.append_right (σ.eraseIdx q)
theorem rows_drop_get {X : Type} : ∀ (l : List X) (k : Nat) (x : X), l[k]? = some x → l.drop k = x :: l.drop (k + 1)
  | [], _, _, h => by simp at h
  | y :: l, 0, x, h => by simp at h; simp [h]
  | y :: l, k + 1, x, h => by simp at h; simpa using rows_drop_get l k x h
theorem Sat.backIn {q : Nat} {p' : HProp} (hq : σ[q]? = some p) (h : Sat w0 M (p' :: σ.eraseIdx q) w) : Sat w0 M (σ.set q p') w := by
  refine h.perm ?_
  have := perm_front q (σ.set q p') _ (getElem?_set_self' σ q _ _ hq)
  rw [eraseIdx_set] at this
  exact this.symm
theorem Sat.rowsSomeX (hs : Sat w0 M σ w) (q : Nat) (hq : σ[q]? = some (hrowsX e e' A C as zs L)) {i : Nat} {z : α} (hz : zs[i]? = some z) : A.isSome = true := by
  obtain ⟨hs1, hl⟩ := (hs.front q hq).xOpen
  have ha : as[i]? = some (as[i]'(by rw [hl]; exact lt_of_get hz)) := List.getElem?_eq_getElem _
  exact (hs1.ownView 0 rfl).some_ (lt_of_get (shad_get (T := T) hz ha))
theorem Sat.nilRows (hs : Sat w0 M σ w) (e e' : TypeId) : Sat w0 M (hrows e e' none 0 ([] : List (Option Addr × Nat)) ([] : List α) :: σ) w :=
  Sat.xClose rfl (hs.nilOwn (α := T) e)
theorem S.appendRow (q : Nat) (hf : FrOk n fs a) {B : Option Addr} {D : Nat} {ys : List β} (hs : Sat w0 M (hown e' B D ys :: σ) w) {d : Nat} (hg : gv ops fs o = some true) (hd : o.dst = some d) (hdn : Nat.blt d n = true) (z : α) (hz : Row1.inner z = ys) {x y : Operand} {t : TypeId} {A2 : Option Addr} {C2 bytes : Nat} {zc : List Value}
    (hq : σ[q]? = some (hrows e e' A C as zs)) (ho : o.op = .call ⟨.builtin .append, #[x, y], #[t, t]⟩) (hx : ev fs x = some (.slice A zs.length C)) (hy : ev fs y = some (.slice A2 1 C2)) (ht : P.underlying t = some (.slice e)) (hi : TyInfo P e (Flat.sz T) bytes zc) (hzc : zc.length = Flat.sz T) (hroom : room (zs ++ [z]).length bytes)
    (hA2 : A2.isSome = true) (hv : View w (old w none_) A2 C2 [Row1.sh z B D])
    (k : ∀ A' C' a w', FrOk n ((d, .slice A' (zs ++ [z]).length C') :: fs) a → Sat w0 M (σ.set q (hrows e e' A' C' (as ++ [(B, D)]) (zs ++ [z]))) w' → wpList P ops Q rest a w') : wpList P ops Q (o :: rest) a w := by
  have hs0 : Sat w0 M (hrows e e' A C as zs :: hown e' B D ys :: σ.eraseIdx q) w := (hs.front (q + 1) (by simpa using hq)).perm (by simp)
  obtain ⟨hs1, hlen⟩ := hs0.xOpen
  have hsl := shad_length (T := T) hlen
  refine S.appendCells 0 hf hs1 hg hd hdn rfl ho (by rw [hsl]; exact hx) hy ht hi hzc (by rw [List.length_append, hsl]; simpa using hroom) hA2 hv (fun A' C' a w' hf hs2 => k A' C' a w' (by rw [List.length_append, hsl] at hf; simpa using hf) ?_)
  refine Sat.unfront hq (Sat.xClose (by simp [hlen]) ?_)
  have e1 : shad (zs ++ [z]) (as ++ [(B, D)]) = shad zs as ++ [Row1.sh z B D] := by unfold shad; rw [List.zipWith_append hlen.symm]; rfl
  have e2 : starL e' (zs ++ [z]) (as ++ [(B, D)]) = starL e' zs as ++ [hown e' B D ys] := by unfold starL; rw [List.zipWith_append hlen.symm, ← hz]; rfl
  rw [e1, e2, List.append_assoc]
  exact hs2
end
end Go.Proofs.YtihjaehkdgdenaaGreatDoor
namespace Go.Proofs.YtihjaehkdgdenaaGreatDoor
open Go Go.RowKit
end Go.Proofs.YtihjaehkdgdenaaGreatDoor
namespace Go.Proofs.YtihjaehkdgdenaaGreatDoor
open Go Go.RowKit
theorem Sat.rebox {w w0 : World} {M : Nat → Prop} {σ : List HProp} (hs : Sat w0 M σ w) (q : Nat) {g : Nat} {e : TypeId} {vs vs' : List Value} (hq : σ[q]? = some (hbox g e vs)) (hv : vs = vs') : Sat w0 M (σ.set q (hbox g e vs')) w := by
  subst hv
  rw [set_self σ q _ hq]
  exact hs
end Go.Proofs.YtihjaehkdgdenaaGreatDoor
namespace Go.Proofs.YtihjaehkdgdenaaGreatDoor
theorem rows_last {X Y : Type} {as : List X} {zs : List Y} {b : X} {z : Y} (h : (as ++ [b]).length = (zs ++ [z]).length) : (as ++ [b])[zs.length]? = some b := by
  simp only [List.length_append, List.length_singleton] at h
  rw [show zs.length = as.length by omega]; exact List.getElem?_concat_length
end Go.Proofs.YtihjaehkdgdenaaGreatDoor
