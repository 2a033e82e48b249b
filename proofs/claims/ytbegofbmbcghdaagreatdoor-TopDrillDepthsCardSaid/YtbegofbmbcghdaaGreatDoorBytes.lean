/- Chapter texts of ours, as far as the claim needs them. -/
import Derived.Test.YtbegofbmbcghdaaGreatDoorNest
import Derived.Test.YtbegofbmbcghdaaGreatDoorStrs
import Derived.Lib.AppendStr
import Derived.Lib.LaidTab
import Derived.Lib.ItoaNum
namespace Go.Proofs.YtbegofbmbcghdaaGreatDoor
open Go Go.RowKit
set_option linter.unusedVariables false
set_option linter.unusedSectionVars false
set_option linter.unusedSimpArgs false
structure Pt where
  q : Option Nat
  A0 : Option Addr
  C0 : Nat
  A1 : Option Addr
  C1 : Nat
instance : Flat Pt := ⟨1, Nat.one_pos, fun s => [.pointer (s.q.map fun g => ⟨g, 0, none⟩)], fun _ => rfl, fun _ v hv => by simp at hv; subst hv; rfl⟩
structure TG (X β0 β1 : Type) where
  t : TypeId
  e0 : TypeId
  e1 : TypeId
  cells : Pt → X → List Value
  r0 : X → List β0
  r1 : X → List β1
def hall (L : List gJ) : gJ := ⟨fun w F => ji w F L (fun _ => False), fun h hb => ji.mono h (fun _ h => h) (fun _ _ h => h) (fun b hz _ => hb b hz)⟩
section
variable {w w0 : World} {M : Nat → Prop} {σ L : List gJ} {p : Prop}
theorem Sat.SN (h : Sat w0 M (hall L :: σ) w) : Sat w0 M (L ++ σ) w := by
  obtain ⟨F, hp, hF, hr⟩ := h.sat
  exact ⟨h.keeps, ji.append (F := F) hp (fun b hb => (hF b hb).1) (fun _ _ hn => hn) hr⟩
theorem Sat.PS (h : Sat w0 M (L ++ σ) w) : Sat w0 M (hall L :: σ) w := by
  obtain ⟨F, hF, hL, hσ⟩ := ji.parts h.sat
  exact ⟨h.keeps, F, hL, hF, hσ⟩
end
abbrev Dp := Option Addr × Nat × List (Option Addr × Nat)
class Tm (α : Type) (β T : outParam Type) [Rep α] [Rep β] [Flat T] where
  inner : α → List β
  sh : α → Option Addr → Nat → T
  rep : ∀ {w F A C z}, View w F A C (inner z) → Rep.rd w F (Flat.enc (sh z A C)) z
  same : Rep.sz α = Flat.sz T
instance QR {β : Type} [Rep β] : Tm (List β) β Sl := ⟨fun x => x, fun x A C => ⟨A, x.length, C⟩, fun h => ⟨_, _, rfl, h⟩, rfl⟩
open Go Go.RowKit Go.Lib
instance Ri : Flat UInt8 := ⟨1, Nat.one_pos, fun x => [.int .u8 x.toNat], fun _ => rfl, fun _ v hv => by simp at hv; subst hv; rfl⟩
attribute [instance 50] Mc
theorem DY (s : Str) : s.flatMap Flat.enc = Lib.strCells (ba s) := by
  unfold Lib.strCells
  rw [xC]
  induction s with
  | nil => rfl
  | cons x r ih => rw [List.flatMap_cons, ih]; rfl
def pz (b : Bool) (g : Nat) : Option Addr := if b then some ⟨g, 0, none⟩ else none
section
variable {P : Program} {w : World}
theorem EU (t u ty e : TypeId) (i : TypeInfo) (ht : P.underlying t = some (.slice e)) (hu : P.underlying u = some .string) (hi : P.info? e = some i) (hz : i.zero = some (.int .u8 0)) (hsize : i.size = 1) (hby : i.bytes = 1)
    (v : Value) (n : Nat) (xs : List Value) (hown : w.ownsRow 0 e 1 v n xs) (s : ByteArray) (h63 : n + s.size ≤ maxLen) (hbytes : n + s.size ≤ 140737488355328) :
    ∃ v' w', (Builtin.append_ #[t, u] ty #[v, .string s]).run P w = .ok v' w' ∧ w'.ownsRow 0 e 1 v' (n + s.size) (xs ++ Lib.strCells s) ∧ w.grownBy w' v.ownBlock ∧ (v'.ownBlock = v.ownBlock ∨ v'.ownBlock = some w.heap.size) := by
  obtain ⟨v', w', hr, h1, h2, h3⟩ := run_append_own_string (P := P) (w := w) 0 t u ty e i ht hu hi hz hsize hby v n xs hown s h63 hbytes (Nat.zero_le _)
  refine ⟨v', w', hr, h1, h2, ?_⟩
  have hsmall : n + s.size ≤ 9223372036854775807 := by simp only [maxLen] at h63; omega
  have hxl : xs.length = n := by simpa using hown.1
  rcases hown.2 with ⟨rfl, rfl⟩ | ⟨g, cap, cur, rfl, hbg, hg, hnc, hcm, hcs, htake⟩
  · by_cases hm : s.size = 0
    · have := h3.2 ⟨rfl, hm⟩
      rw [this]; exact .inl rfl
    · have hr2 := run_append_nil_string (P := P) w t u ty e i (.int .u8 0) ht hu hi hz s (by omega) (by omega) (by rw [hby]; omega)
      rw [hr] at hr2
      injection hr2 with e1 e2
      rw [e1]; exact .inr rfl
  · by_cases hroom : n + s.size ≤ cap
    · have hcs' : cur.size = cap := by simpa using hcs
      have hr2 := run_append_room_string (P := P) w t u ty e i ht hu hi hsize g n cap cur hg s hroom (by omega)
      rw [hr] at hr2
      injection hr2 with e1 e2
      rw [e1]; exact .inl rfl
    · have holds : ∀ j u, xs[j]? = some u → w.cell? ((⟨g, 0, none⟩ : Addr).add j) = some u := hown.cells (g := g) rfl
      have hr2 := run_append_grow_string (P := P) w t u ty e i (.int .u8 0) ht hu hi hz ⟨g, 0, none⟩ n cap xs (by rw [hsize]; simpa using hxl) holds s (by omega) (by omega) (by rw [hby]; exact growslice_fits (by omega) (by omega))
      rw [hr] at hr2
      injection hr2 with e1 e2
      rw [e1]; exact .inr rfl
end
section
variable {P : Program} {n : Nat} {fs : Fr} {a : Act} {o : Oper} {ops : Array Oper} {rest : List Oper} {Q : Exit → Act → World → Prop} {w w0 : World} {M : Nat → Prop} {σ : List gJ}
theorem FU {x y : Operand} {t t2 : TypeId} {u v' : Value} {r : Value} {w' : World} (ho : o.op = .call ⟨.builtin .append, #[x, y], #[t, t2]⟩) (hx : a.eval x = u) (hy : a.eval y = v') (hr : (Builtin.append_ #[t, t2] o.type #[u, v']).run P w = .ok r w') :
    (execOp a.eval o).run P w = .ok (.value r) w' := by
  unfold execOp
  simp only [ho, resolve, invoke, builtin, Sem.run_bind, Sem.run_pure, Result.andThen_ok, List.map_toArray, List.map_cons, List.map_nil, hx, hy, hr]
theorem S.OW (q : Nat) (hf : fB n fs a) (hs : Sat w0 M σ w) {d : Nat} (hg : gv ops fs o = some true) (hd : o.dst = some d) (hdn : Nat.blt d n = true) {e : TypeId} {A : Option Addr} {C : Nat} {xs s : Str} (hq : σ[q]? = some (hown e A C xs)) {x y : Operand} {t t2 : TypeId}
    (ho : o.op = .call ⟨.builtin .append, #[x, y], #[t, t2]⟩) (hx : ev fs x = some (.slice A xs.length C)) (hy : ev fs y = some (.string (ba s))) (ht : P.underlying t = some (.slice e)) (ht2 : P.underlying t2 = some .string)
    (hi : (P.info? e).map (fun i => (i.zero, i.size, i.bytes)) = some (some (.int .u8 0), 1, 1)) (hroom : room (xs ++ s).length 1)
    (k : ∀ A' C' a w', fB n ((d, .slice A' (xs ++ s).length C') :: fs) a → Sat w0 M (σ.set q (hown e A' C' (xs ++ s))) w' → wpList P ops Q rest a w') : wpList P ops Q (o :: rest) a w := by
  obtain ⟨i, hi1, hi2⟩ := Option.map_eq_some_iff.1 hi
  injection hi2 with hz hi3
  injection hi3 with hsz hby
  obtain ⟨F, ⟨hown', hF⟩, hlt, hupd⟩ := hs.upd q hq
  rw [List.length_append] at hroom
  have hown1 : w.ownsRow 0 e 1 (.slice A xs.length C) xs.length (Lib.strCells (ba xs)) := by rw [← DY]; exact hown'
  obtain ⟨v', w', hr, hown2, hgr, hat⟩ := EU (P := P) t t2 o.type e i ht ht2 hi1 hz hsz hby _ _ _ hown1 (ba s) (by rw [vN]; unfold maxLen; exact hroom.1) (by rw [vN]; have := hroom.2; omega)
  rw [vN, ← DY, ← DY, ← List.flatMap_append, ← List.length_append] at hown2
  obtain ⟨A', C', rfl⟩ := Oq (α := UInt8) hown2
  refine S.act (R := fun v w' => ∃ A' C', v = .slice A' (xs ++ s).length C' ∧ Sat w0 M (σ.set q (hown e A' C' (xs ++ s))) w') hf hg hd hdn (fun a hf => ?_) (fun v a w' hf ⟨A, C, hv, hs⟩ => k A C a w' (hv ▸ hf) hs)
  refine ⟨_, w', FU ho (hf.gX hx) (hf.gX hy) hr, A', C', rfl, hupd w' (hown e A' C' (xs ++ s)) (fun b => (Value.slice A' (xs ++ s).length C').ownBlock = some b) (Keeps.of_grownBy hgr (fun b hb => (hF b).2 hb) (lN _ _ _ _ hr)) ⟨hown2, fun b => Iff.rfl⟩ (fun b hb => ⟨?_, (hown2.lt b hb).2⟩)⟩
  rcases hat with hat | hat
  · exact .inl ((hF b).2 (hat ▸ hb))
  · rw [hat] at hb
    injection hb with hb
    exact .inr (Nat.le_of_eq hb)
end
structure fD where
  addr : Bool
  buf : Str
def su (P : Program) (w : World) (F : Nat → Prop) : Prop := ∃ g, P.globalNamed "internal/strconv.uint64pow10" = some g ∧ F g ∧ ∃ cs t fz, w.heap[g]? = some (.cells cs t fz) ∧ cs = (Lib.pow10Tab.map fun z => Value.int .u64 z).toArray
theorem su.tab {P : Program} {w : World} {F : Nat → Prop} (h : su P w F) : Lib.TabIs P w "internal/strconv.uint64pow10" .u64 Lib.pow10Tab := by
  obtain ⟨g, h1, _, cs, t, fz, h2, h3⟩ := h
  unfold Lib.TabIs World.var?
  rw [h1]
  show (match w.heap[g]? with | some (.cells cs _ _) => some cs | _ => none) = _
  rw [h2, h3]
theorem su.of {P : Program} {w : World} (h : Lib.TabIs P w "internal/strconv.uint64pow10" .u64 Lib.pow10Tab) : su P w (old w none_) := by
  unfold Lib.TabIs World.var? at h
  obtain ⟨g, h1, h2⟩ := Option.bind_eq_some_iff.1 h
  refine ⟨g, h1, ?_, ?_⟩
  · refine ⟨?_, fun e => e⟩
    cases hb : w.heap[g]? with
    | none => rw [hb] at h2; cases h2
    | some x => exact (Array.getElem?_eq_some_iff.1 hb).1
  · cases hb : w.heap[g]? with
    | none => rw [hb] at h2; cases h2
    | some x =>
      rw [hb] at h2
      cases x with
      | cells cs t fz => exact ⟨cs, t, fz, rfl, Option.some.inj h2⟩
      | _ => cases h2
theorem su.mono {P : Program} {w w' : World} {F F' : Nat → Prop} (h : su P w F) (hF : ∀ b, F b → F' b ∧ w'.heap[b]? = w.heap[b]?) : su P w' F' := by
  obtain ⟨g, h1, h2, cs, t, fz, h3, h4⟩ := h
  exact ⟨g, h1, (hF g h2).1, cs, t, fz, (hF g h2).2.trans h3, h4⟩
section
variable {P : Program} {w w0 : World} {M : Nat → Prop} {σ : List gJ}
theorem su.arg (h : su P w0 (old w0 M)) (hs : Sat w0 M σ w) : su P w (old w none_) :=
  h.mono fun b hb => ⟨⟨(Ag.args w0 M σ w hs b hb).1, fun e => e⟩, (Ag.args w0 M σ w hs b hb).2⟩
theorem su.SS {F : Nat → Prop} (hs : Sat w0 M σ w) (hold : ∀ b, old w0 M b → old w F b) (h : su P w0 (old w0 M)) : su P w (old w F) :=
  h.mono fun b hb => ⟨hold b hb, hs.keeps.block b hb.1 hb.2⟩
end
end Go.Proofs.YtbegofbmbcghdaaGreatDoor
