/- Chapter texts of ours, as far as the claim needs them. -/
import Derived.Test.YtihjaehkdgdenaaMark
import Derived.Laws.Append
import Derived.Laws.AppendOwn
import Derived.Lib.Overlaps
import Derived.Shelf.SortM.Plain
import Derived.Shelf.SortM.SortNone
import Derived.Ground.SlgmProg
import Derived.Ground.NamesProg
import Derived.Test.YtihjaehkdgdenaaProg
namespace Go.Proofs.Ytihjaehkdgdenaa
open Go Go.RowKit
set_option linter.unusedVariables false
section
variable {P : Program} {n : Nat} {fs : Fr} {a : Act} {o : Oper} {v : Value} {ops : Array Oper} {rest : List Oper} {Q : Exit → Act → World → Prop} {w w0 : World} {M : Nat → Prop} {σ : List HProp}
theorem V.cap {t : TypeId} {x : Operand} {A : Option Addr} {l C : Nat} {e : TypeId} (ho : o.op = .call ⟨.builtin .cap, #[x], #[t]⟩) (hx : ev fs x = some (.slice A l C))
    (ht : ∀ w, (underlying t).run P w = .ok (.slice e) w) : ∀ a w, FrOk n fs a → Sat w0 M σ w → RunV P o a w (.int .i64 C) := fun a w hf _ => by
  have e1 := hf.ev_ok hx
  unfold RunV execOp
  simp only [ho, resolve, invoke, builtin, Sem.run_bind, Sem.run_pure, Result.andThen_ok, List.map_toArray, List.map_cons, List.map_nil, e1, Builtin.cap_]
  simp [Sem.run_bind, ht, goInt]
theorem View.from_ {α : Type} [Flat α] {F : Nat → Prop} {g o1 C : Nat} {xs : List α} (h : View w F (some ⟨g, o1, none⟩) C xs) {k : Nat} (hk : k ≤ xs.length) : View w F (some ⟨g, o1 + k * Flat.sz α, none⟩) (C - k) (xs.drop k) := by
  refine ⟨by have := h.cap; rw [List.length_drop]; omega, Nat.le_trans (Nat.sub_le _ _) h.most, fun i x hx => ?_⟩
  rw [List.getElem?_drop] at hx
  obtain ⟨cs, ⟨ad, had, hF, hc⟩, hr⟩ := h.at_ _ _ hx
  injection had with had
  subst had
  refine ⟨cs, ⟨_, rfl, hF, fun j v hv => ?_⟩, hr⟩
  have := hc j v hv
  rw [Addr.add_lit] at this ⊢
  show w.cell? ⟨g, o1 + k * Flat.sz α + (i * Flat.sz α + j), none⟩ = some v
  have e : (k + i) * Rep.sz α + j = k * Flat.sz α + (i * Flat.sz α + j) := by
    show (k + i) * Flat.sz α + j = _
    rw [Nat.add_mul]; omega
  rw [e] at this
  rw [Nat.add_assoc]; exact this
end
end Go.Proofs.Ytihjaehkdgdenaa
namespace Go.Proofs.Ytihjaehkdgdenaa
open Go Go.RowKit Go.Sort
set_option linter.unusedVariables false
section
variable {P : Program} {ρ : Go.Shelf.Ren} {w0 w : World} {F0 : Nat → Prop}
theorem ints_enc (xs : List Int) : xs.flatMap Flat.enc = xs.map (Value.int .i64) := by
  induction xs with
  | nil => rfl
  | cons x r ih => rw [List.flatMap_cons, ih]; rfl
theorem ints_sz : Flat.sz Int = 1 := rfl
theorem ints_holds {e : TypeId} {g : Nat} {xs : List Int} {cur : Array Value} (hh : w.heap[g]? = some (.cells cur e (0, 0))) (ht : cur.toList.take xs.length = xs.map (Value.int .i64)) : Holds (Value.int .i64) w g 0 xs.toArray := by
  intro j hj
  have hj' : j < xs.length := by simpa using hj
  refine ⟨?_, by simp [World.frozen?, hh]⟩
  rw [cell_of_row w g _ cur e (0, 0) hh, Nat.zero_add, getElem!_pos xs.toArray j hj]
  have h1 : (xs.map (Value.int .i64))[j]? = some (.int .i64 xs[j]) := by rw [List.getElem?_map, List.getElem?_eq_getElem hj']; rfl
  rw [← ht, List.getElem?_take, if_pos hj', Array.getElem?_toList] at h1
  simpa using h1
theorem ints_sat {e : TypeId} {g C n : Nat} {xs ys : List Int} {os : Array Obj} {A : Option Addr} (hA : A = some ⟨g, 0, none⟩) (hs : Sat w0 F0 [hown e A C xs] w) (hne : 0 < xs.length) (hl : ys.length = xs.length) :
    Sat w0 F0 [hown e A C ys] (Sort.grow (putRow (Value.int .i64) (Sort.ahead w n) g 0 ys.toArray) os) := by
  subst hA
  obtain ⟨F, hp, hlt, hupd⟩ := hs.upd 0 rfl
  obtain ⟨g2, cur, hg2, hh, hC, hM, hcs, htake, hF⟩ := own_form hp hne
  injection hg2 with hg2
  injection hg2 with hg2
  subst hg2
  have hgl := hlt g ((hF g).2 rfl)
  have hput : (putRow (Value.int .i64) (Sort.ahead w n) g 0 ys.toArray).heap[g]? = some (.cells (putCells (Value.int .i64) 0 ys.toArray cur) e (0, 0)) := by
    unfold putRow mapBlock
    simp [Sort.ahead, Array.getElem?_modify, hh, onCells]
  have hsize : (putRow (Value.int .i64) (Sort.ahead w n) g 0 ys.toArray).heap.size = w.heap.size := by
    rw [size_putRow]; rfl
  refine hupd _ (hown e (some ⟨g, 0, none⟩) C ys) F ⟨rfl, rfl, rfl, ?_, fun b hb hb2 => ?_, ?_⟩ ⟨⟨?_, .inr ⟨g, C, putCells (Value.int .i64) 0 ys.toArray cur, by simp, Nat.zero_le _, ?_, ?_, hM, ?_, ?_⟩⟩, fun b => (hF b).trans (by simp [Value.ownBlock]; exact eq_comm)⟩ (fun b hb => ⟨.inl hb, ?_⟩)
  · unfold Sort.grow; simp [hsize]
  · unfold Sort.grow
    rw [Array.getElem?_append_left (by rw [hsize]; exact hb)]
    unfold putRow mapBlock
    have : g ≠ b := fun e => hb2 ((hF b).2 e.symm)
    simp [Sort.ahead, Array.getElem?_modify, this]
  · intro _; show w.drawn ≤ w.drawn + n; omega
  · rw [length_flatMap_enc]
  · unfold Sort.grow
    rw [Array.getElem?_append_left (by rw [hsize]; exact hgl)]
    exact hput
  · simpa [hl] using hC
  · simp [putCells, hcs]
  · rw [ints_enc]
    have hcl : cur.size = C * 1 := hcs
    refine List.ext_getElem? (fun j => ?_)
    rw [List.getElem?_take, Array.getElem?_toList, List.getElem?_map, ints_sz]
    rcases Nat.lt_or_ge j (ys.length * 1) with hj | hj
    · rw [if_pos hj]
      have hj2 : j < ys.length := by omega
      simp only [putCells, Array.getElem?_mapIdx]
      rw [Array.getElem?_eq_getElem (show j < cur.size by omega), List.getElem?_eq_getElem hj2]
      simp [hj2]
    · rw [if_neg (by omega), List.getElem?_eq_none (by omega)]; rfl
  · unfold Sort.grow; simp [hsize]; have := hlt b hb; omega
def sortInts (xs : List Int) : List Int := xs.mergeSort (fun x y => decide (x ≤ y))
theorem sortInt_run (L : Go.Proofs.SlLaysM.n5 P ρ) {e : TypeId} {A : Option Addr} {C : Nat} {xs : List Int} (hs : Sat w0 F0 [hown e A C xs] w) (hlen : xs.length < 4611686018427387904) :
    Ret P (ρ.f 5) #[.slice A xs.length C] w fun v w' => v = .tuple #[] ∧ Sat w0 F0 [hown e A C (sortInts xs)] w' := by
  rcases Nat.eq_zero_or_pos xs.length with h0 | h0
  · have hx : xs = [] := List.eq_nil_of_length_eq_zero h0
    subst hx
    refine Calls.mono (AnyM.slices_Sort_int_none L A C w) ?_
    rintro e' w' ⟨rfl, rfl⟩
    exact ⟨_, rfl, rfl, by unfold sortInts; rw [List.mergeSort_nil]; exact hs⟩
  · obtain ⟨F, hp, hlt, hupd⟩ := hs.upd 0 rfl
    obtain ⟨g1, cur, rfl, hh, hC, hM, hcs, htake, hF⟩ := own_form hp h0
    rw [ints_enc, ints_sz, Nat.mul_one] at htake
    refine Calls.mono (AnyM.slices_Sort_int L g1 0 C xs w (ints_holds hh htake) (hlt g1 ((hF g1).2 rfl)) hlen) ?_
    rintro e' w' ⟨rfl, n, os, rfl⟩
    exact ⟨_, rfl, rfl, ints_sat rfl hs h0 (List.length_mergeSort _)⟩
end
end Go.Proofs.Ytihjaehkdgdenaa
namespace Go.Proofs
open Go.Shelf
def Try.laysSlgm5_85_ren : Go.Shelf.Ren := ⟨fun | 5 => 85 | 8 => 98 | 7 => 97 | 19 => 111 | 20 => 112 | 10 => 102 | 11 => 103 | 12 => 104 | 13 => 105 | 14 => 106 | 15 => 107 | 16 => 108 | 17 => 109 | 18 => 110 | 30 => 113 | 31 => 114 | 32 => 115 | 33 => 116 | 34 => 117 | 35 => 118 | 40 => 119 | n => n, fun | 23 => 55 | 25 => 3 | 3 => 3 | 32 => 134 | 22 => 55 | 0 => 0 | 44 => 153 | 46 => 155 | 4 => 4 | 36 => 145 | 35 => 144 | 41 => 150 | 5 => 5 | 9 => 9 | 53 => 156 | 57 => 160 | 63 => 163 | 64 => 111 | n => n, fun | n => n⟩
theorem Try.laysSlgm5_85 : Go.Proofs.SlLaysM.n5 Try.prog Try.laysSlgm5_85_ren := {
  mixed := by kernel_rfl
  f5 := ⟨Try.f85.name, by decide, Try.func85.trans (congrArg some (by kernel_rfl))⟩
  f7 := ⟨Try.f97.name, by decide, Try.func97.trans (congrArg some (by kernel_rfl))⟩
  f8 := Try.func98.trans (congrArg some (by kernel_rfl))
  f10 := ⟨Try.f102.name, by decide, Try.func102.trans (congrArg some (by kernel_rfl))⟩
  f11 := ⟨Try.f103.name, by decide, Try.func103.trans (congrArg some (by kernel_rfl))⟩
  f12 := ⟨Try.f104.name, by decide, Try.func104.trans (congrArg some (by kernel_rfl))⟩
  f13 := ⟨Try.f105.name, by decide, Try.func105.trans (congrArg some (by kernel_rfl))⟩
  f14 := ⟨Try.f106.name, by decide, Try.func106.trans (congrArg some (by kernel_rfl))⟩
  f15 := ⟨Try.f107.name, by decide, Try.func107.trans (congrArg some (by kernel_rfl))⟩
  f16 := ⟨Try.f108.name, by decide, Try.func108.trans (congrArg some (by kernel_rfl))⟩
  f17 := ⟨Try.f109.name, by decide, Try.func109.trans (congrArg some (by kernel_rfl))⟩
  f18 := ⟨Try.f110.name, by decide, Try.func110.trans (congrArg some (by kernel_rfl))⟩
  f19 := Try.func111.trans (congrArg some (by kernel_rfl))
  f20 := Try.func112.trans (congrArg some (by kernel_rfl))
  f30 := ⟨Try.f113.name, by decide, Try.func113.trans (congrArg some (by kernel_rfl))⟩
  f31 := Try.func114.trans (congrArg some (by kernel_rfl))
  f32 := Try.func115.trans (congrArg some (by kernel_rfl))
  f33 := ⟨Try.f116.name, by decide, Try.func116.trans (congrArg some (by kernel_rfl))⟩
  f34 := ⟨Try.f117.name, by decide, Try.func117.trans (congrArg some (by kernel_rfl))⟩
  f35 := ⟨Try.f118.name, by decide, Try.func118.trans (congrArg some (by kernel_rfl))⟩
  f40 := ⟨Try.f119.name, by decide, Try.func119.trans (congrArg some (by kernel_rfl))⟩
  t0 := Try.underlying0
  a0 := Try.isAgg0
  z0 := Try.sizeOf0
  v0 := Try.zeroValue0
  t3 := Try.underlying3
  a3 := Try.isAgg3
  z3 := Try.sizeOf3
  v3 := Try.zeroValue3
  t4 := Try.underlying4
  a4 := Try.isAgg4
  z4 := Try.sizeOf4
  v4 := Try.zeroValue4
  t5 := Try.underlying5
  a5 := Try.isAgg5
  z5 := Try.sizeOf5
  v5 := Try.zeroValue5
  t9 := Try.underlying9
  a9 := Try.isAgg9
  z9 := Try.sizeOf9
  v9 := Try.zeroValue9
  t22 := Try.underlying55
  a22 := Try.isAgg55
  z22 := Try.sizeOf55
  v22 := Try.zeroValue55
  t23 := Try.underlying55
  a23 := Try.isAgg55
  z23 := Try.sizeOf55
  v23 := Try.zeroValue55
  t25 := Try.underlying3
  a25 := Try.isAgg3
  z25 := Try.sizeOf3
  v25 := Try.zeroValue3
  t32 := Try.underlying134
  a32 := Try.isAgg134
  z32 := Try.sizeOf134
  v32 := Try.zeroValue134
  t35 := Try.underlying144
  a35 := Try.isAgg144
  z35 := Try.sizeOf144
  v35 := Try.zeroValue144
  t36 := Try.underlying145
  a36 := Try.isAgg145
  z36 := Try.sizeOf145
  v36 := Try.zeroValue145
  t41 := Try.underlying150
  a41 := Try.isAgg150
  z41 := Try.sizeOf150
  v41 := Try.zeroValue150
  t44 := Try.underlying153
  a44 := Try.isAgg153
  z44 := Try.sizeOf153
  v44 := Try.zeroValue153
  t46 := Try.underlying155
  a46 := Try.isAgg155
  z46 := Try.sizeOf155
  v46 := Try.zeroValue155
  t53 := Try.underlying156
  a53 := Try.isAgg156
  z53 := Try.sizeOf156
  v53 := Try.zeroValue156
  t57 := Try.underlying160
  a57 := Try.isAgg160
  z57 := Try.sizeOf160
  v57 := Try.zeroValue160
  t63 := Try.underlying163
  a63 := Try.isAgg163
  z63 := Try.sizeOf163
  v63 := Try.zeroValue163
  t64 := Try.underlying111
  a64 := Try.isAgg111
  z64 := Try.sizeOf111
  v64 := Try.zeroValue111 }
end Go.Proofs
