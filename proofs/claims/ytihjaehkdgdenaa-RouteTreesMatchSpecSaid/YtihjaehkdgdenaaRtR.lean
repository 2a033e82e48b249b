/- Chapter texts of ours, as far as the claim needs them. -/
import Derived.Test.YtihjaehkdgdenaaRtQ
import Derived.Test.YtihjaehkdgdenaaRtN2
import Derived.Test.YtihjaehkdgdenaaRtS
namespace Go.Proofs.Ytihjaehkdgdenaa
open Go Go.RowKit
set_option linter.unusedVariables false
set_option linter.unusedSimpArgs false
def pw (w : R7Worth) : Int × Int := (w.cost, w.cells)
def kW (w : R7Worth) : Int := keyP (pw w)
structure FldOk (g : Grid) (c : Costs) (b : Nat) (best : List R7Worth) : Prop where
  least : Least ((grC g c).E true) [3 * b, 3 * b + 1, 3 * b + 2] (3 * (grG g).N) (best.map kW)
  val : ∀ (s : Nat) w, best[s]? = some w → w = ⟨0, 0⟩ ∨ (0 ≤ w.cost ∧ w.cost ≤ 360000000 ∧ 1 ≤ w.cells ∧ w.cells ≤ 120000)
section
variable {g : Grid} {c : Costs}
theorem grid3_w64 (hg : GOk g) : w64 ((w64 ((w64 (3 * g.W)) * g.H)) * g.Layers) = ((3 * (grG g).N : Nat) : Int) := by
  have hN := NN_eq hg.sz
  have hN2 := hg.N
  have hW := hg.sz.W; have hH := hg.sz.H; have hL := hg.sz.L
  have h1 : 0 ≤ 3 * g.W * g.H ∧ 3 * g.W * g.H ≤ 600 * 200 := ⟨Int.mul_nonneg (by omega) (by omega), Int.mul_le_mul (by omega) hH.2 (by omega) (by omega)⟩
  rw [w64_id (n := 3 * g.W) (by omega) (by omega), w64_id (n := 3 * g.W * g.H) (by omega) (by omega)]
  have e : 3 * g.W * g.H * g.Layers = 3 * (g.W * g.H * g.Layers) := by rw [Int.mul_assoc 3, Int.mul_assoc 3]
  rw [e, hN, w64_id] <;> omega
theorem S_fieldOf (hg : GOk g) (hc : COk c) {b : Cell} (hb : inG g b = true) {Q : Option (List Bool × List R7Worth) → Prop} (h : ∀ best, FldOk g c (numN g b) best → Q (some (noOf g, best))) : M_ref7_fieldOf g c b Q := by
  have hN := NN_eq hg.sz
  have hN2 := hg.N
  have hnb := numN_lt hg.sz hb
  have hE := (goodF_of hg hc).ok.good true
  have hEN : GoodE ((grC g c).E true) (3 * (grG g).N) 3000 := hE
  have hkB : kB = 1048576 := rfl
  unfold M_ref7_fieldOf
  rw [grid3_w64 hg, grid_w64 hg.sz, hN]
  have m1 : (0 ≤ ((grG g).N : Int) ∧ ((grG g).N : Int) * 1 ≤ 281474976710656) := ⟨by omega, by omega⟩
  have m2 : (0 ≤ ((3 * (grG g).N : Nat) : Int) ∧ ((3 * (grG g).N : Nat) : Int) * 16 ≤ 281474976710656) := ⟨by omega, by omega⟩
  suffices key : forIn' (fun k x (s : List Bool) next => M_ref7_fieldOf_L1 g c k x s (fun l2 => next l2)) (fun (s : List Bool) => (fun (l2 : List Bool) => lp (fun again (s : List R7Entry × Int) => M_ref7_fieldOf_L2 g c b Q l2 (fun l4 n2 => again (l4, n2)) s.1 s.2) (([] : List R7Entry), 0)) s) g.Blocked 0 (List.replicate (((grG g).N : Nat) : Int).toNat false) from ⟨⟨m1, m2, key⟩, ⟨m2, m1, key⟩⟩
  rw [Int.toNat_natCast]
  refine forIn0 (fun k (l : List Bool) => l.length = (grG g).N ∧ ∀ n, n < (grG g).N → l[n]? = some ((g.Blocked.take k).any (fun c => decide (numN g c = n)))) ⟨by simp, fun n hn => ?_⟩ (fun k x l hx hI next hn => ?_) (fun l hI => ?_)
  · rw [List.getElem?_replicate, if_pos hn]; simp
  · unfold M_ref7_fieldOf_L1
    have hxm : x ∈ g.Blocked := List.mem_of_getElem? hx
    have hxg := hg.blk x hxm
    have hxl := numN_lt hg.sz hxg
    refine S_field_at (f := ⟨g, c, l, _⟩) hg.sz hxg ?_
    refine idx_nat (List.getElem?_eq_getElem (by rw [hI.1]; exact hxl)) ?_
    rw [Int.toNat_natCast]
    refine hn _ ⟨by rw [List.length_set]; exact hI.1, fun n hnn => ?_⟩
    rw [List.take_add_one, hx, List.any_append, List.getElem?_set]
    simp only [Option.toList, List.any_cons, List.any_nil, Bool.or_false]
    split
    · rename_i e; rw [if_pos (by rw [hI.1]; exact hxl)]; simp [e]
    · rename_i e; rw [hI.2 n hnn]; simp [e]
  · have hl : l = noOf g := by
      apply List.ext_getElem?
      intro n
      rcases Nat.lt_or_ge n (grG g).N with hn | hn
      · rw [hI.2 n hn, noOf_get hn, List.take_length]
      · rw [List.getElem?_eq_none (by rw [hI.1]; exact hn), List.getElem?_eq_none (by unfold noOf; simp; exact hn)]
    subst hl
    -- the three states of the goal
    have start : ∀ (j : Nat) (l : List R7Entry) (again : List R7Entry → Int → Prop), j < 3 → l.length ≤ 3 → (∀ y ∈ l, okE y) → isHeap7 l → (∀ l', l'.Perm (⟨⟨0, 1⟩, ((3 * numN g b + j : Nat) : Int)⟩ :: l) → isHeap7 l' → again l' ((j + 1 : Nat) : Int)) → M_ref7_fieldOf_L2 g c b Q (noOf g) again l (j : Int) := by
      intro j l again hj hl hok hh hk
      unfold M_ref7_fieldOf_L2
      rw [decide_eq_true (show (j : Int) < 3 by omega)]
      simp only [cnd_true]
      refine S_field_at (f := ⟨g, c, noOf g, _⟩) hg.sz hb ?_
      rw [show w64 ((w64 (3 * (numN g b : Int))) + (j : Int)) = ((3 * numN g b + j : Nat) : Int) by rw [w64_id (n := 3 * (numN g b : Int)) (by omega) (by omega), w64_id] <;> omega]
      refine S_push7 (by omega) hok ⟨by simp, by simp [hkB]⟩ hh (fun l' hp hh' => ?_)
      rw [show w64 ((j : Int) + 1) = ((j + 1 : Nat) : Int) by rw [w64_id] <;> omega]
      exact hk l' hp hh'
    have okS : ∀ (j : Nat) (l l' : List R7Entry), (∀ y ∈ l, okE y) → l'.Perm (⟨⟨0, 1⟩, ((3 * numN g b + j : Nat) : Int)⟩ :: l) → ∀ y ∈ l', okE y := fun j l l' hok hp y hy => by
      rcases List.mem_cons.1 (hp.mem_iff.1 hy) with h1 | h1
      · subst h1; exact ⟨by simp, by simp [hkB]⟩
      · exact hok y h1
    refine ⟨4, ?_⟩
    refine start 0 [] _ (by omega) (by simp) (fun y hy => by cases hy) (fun k h1 h2 => absurd h2 (by simp)) (fun l1 hp1 hh1 => ?_)
    have ok1 := okS 0 [] l1 (fun y hy => by cases hy) hp1
    refine start 1 l1 _ (by omega) (by rw [hp1.length_eq]; simp) ok1 hh1 (fun l2 hp2 hh2 => ?_)
    have ok2 := okS 1 l1 l2 ok1 hp2
    refine start 2 l2 _ (by omega) (by rw [hp2.length_eq, List.length_cons, hp1.length_eq]; simp) ok2 hh2 (fun l3 hp3 hh3 => ?_)
    have hl3 : l3.length = 3 := by rw [hp3.length_eq, List.length_cons, hp2.length_eq, List.length_cons, hp1.length_eq]; rfl
    have mem3 : ∀ y, y ∈ l3 ↔ y = ⟨⟨0, 1⟩, ((3 * numN g b + 2 : Nat) : Int)⟩ ∨ y = ⟨⟨0, 1⟩, ((3 * numN g b + 1 : Nat) : Int)⟩ ∨ y = ⟨⟨0, 1⟩, ((3 * numN g b + 0 : Nat) : Int)⟩ := fun y => by
      rw [hp3.mem_iff, List.mem_cons, hp2.mem_iff, List.mem_cons, hp1.mem_iff, List.mem_singleton]
    show M_ref7_fieldOf_L2 g c b Q (noOf g) _ l3 3
    unfold M_ref7_fieldOf_L2
    rw [show decide ((3 : Int) < 3) = false by decide]
    simp only [cnd_false]
    rw [grid3_w64 hg, Int.toNat_natCast, List.length_replicate]
    refine ⟨⟨by omega, by omega⟩, ?_⟩
    refine lp_measN (fun m (s : List R7Worth × List R7Entry × List Bool) => DInv ((grC g c).E true) [3 * numN g b, 3 * numN g b + 1, 3 * numN g b + 2] (3 * (grG g).N) (fun _ => False) (s.1.map pw) s.2.2 (s.2.1.map pr7) ∧ isHeap7 s.2.1 ∧ (∀ y ∈ s.2.1, 0 ≤ y.state) ∧ m = s.2.1.length + 18 * (3 * (grG g).N - s.2.2.count true) ∧ m ≤ 4000000) (n := 3 + 18 * (3 * (grG g).N)) ⟨?_, hh3, fun y hy => ?_, ?_, by omega⟩ ?_
    · -- at first
      have cnt : (List.replicate (3 * (grG g).N) false).count true = 0 := by rw [List.count_replicate]; simp
      refine ⟨by simp, by simp, fun s hs => ?_, fun s hs => ?_, fun x hx => ?_, fun x hx s b' hs => ?_, fun s hs => .inr ?_, fun s b' hs => ?_⟩
      · rw [List.getElem?_replicate] at hs
        split at hs
        · rename_i h1; rw [List.map_replicate, List.getElem?_replicate, if_pos h1]; rfl
        · cases hs
      · rw [List.getElem?_replicate] at hs; split at hs <;> simp at hs
      · obtain ⟨y, hy, rfl⟩ := List.mem_map.1 hx
        rcases (mem3 y).1 hy with rfl | rfl | rfl
        · exact ⟨by simp only [pr7, Int.toNat_natCast]; omega, 0, 0, .start (by simp [pr7]; omega), rfl, Int.le_refl _, Nat.zero_le _⟩
        · exact ⟨by simp only [pr7, Int.toNat_natCast]; omega, 0, 0, .start (by simp [pr7]; omega), rfl, Int.le_refl _, Nat.zero_le _⟩
        · exact ⟨by simp only [pr7, Int.toNat_natCast]; omega, 0, 0, .start (by simp [pr7]; omega), rfl, Int.le_refl _, Nat.zero_le _⟩
      · rw [List.getElem?_replicate] at hs; split at hs <;> simp at hs
      · simp only [List.mem_cons, List.not_mem_nil, or_false] at hs
        rcases hs with rfl | rfl | rfl
        · exact List.mem_map.2 ⟨_, (mem3 _).2 (.inr (.inr rfl)), by simp [pr7]; omega⟩
        · exact List.mem_map.2 ⟨_, (mem3 _).2 (.inr (.inl rfl)), by simp [pr7]; omega⟩
        · exact List.mem_map.2 ⟨_, (mem3 _).2 (.inl rfl), by simp [pr7]; omega⟩
      · rw [List.getElem?_replicate] at hs; split at hs <;> simp at hs
    · rcases (mem3 y).1 hy with rfl | rfl | rfl <;> simp only <;> omega
    · simp only [hl3, List.count_replicate]; simp
    · rintro m ⟨best, l, dn⟩ X ⟨hd, hh, hs, hm, hmb⟩ hX
      simp only at hd hh hs hm
      show M_ref7_fieldOf_L3 g c Q (noOf g) (fun l8 l9 l10 => X (l8, l9, l10)) best l dn
      unfold M_ref7_fieldOf_L3
      refine cnd_of (fun e => ?_) (fun e => ?_)
      · have h0 : 0 < l.length := by simpa using e
        have hok := okE_of (by omega) hd
        refine S_pop7 (by omega) h0 hok hh (fun x l' hp hmin hh' => ?_)
        have hd2 : DInv ((grC g c).E true) [3 * numN g b, 3 * numN g b + 1, 3 * numN g b + 2] (3 * (grG g).N) (fun _ => False) (best.map pw) dn (pr7 x :: l'.map pr7) := hd.perm (hp.map pr7).symm
        have hx0 : 0 ≤ x.state := hs x (hp.mem_iff.2 List.mem_cons_self)
        have hs' : ∀ y ∈ l', 0 ≤ y.state := fun y hy => hs y (hp.mem_iff.2 (List.mem_cons_of_mem _ hy))
        have hll : l.length = l'.length + 1 := by rw [hp.length_eq]; rfl
        obtain ⟨hxN, k, n, w, ew, hk0, hnc⟩ := hd2.ent (pr7 x) List.mem_cons_self
        simp only [pr7] at hxN w ew
        have hcl : dn.count true ≤ dn.length := List.count_le_length
        rw [hd.ld] at hcl
        have hxd : x.state.toNat < dn.length := by rw [hd.ld]; exact hxN
        refine ⟨hx0, dn[x.state.toNat], List.getElem?_eq_getElem hxd, ?_⟩
        have hdx : dn[x.state.toNat]? = some dn[x.state.toNat] := List.getElem?_eq_getElem hxd
        refine cnd_of (fun e2 => ?_) (fun e2 => ?_)
        · rw [e2] at hdx
          exact hX (l'.length + 18 * (3 * (grG g).N - dn.count true)) (best, l', dn) (by omega) ⟨hd2.skip hdx, hh', hs', rfl, by omega⟩
        · rw [e2] at hdx
          have hbl : x.state.toNat < best.length := by have := hd.lb; rw [List.length_map] at this; rw [this]; exact hxN
          refine ⟨hx0, best[x.state.toNat], List.getElem?_eq_getElem hbl, ?_⟩
          have ho := hd2.open_ (fun y hy => by obtain ⟨z, hz, rfl⟩ := List.mem_map.1 hy; exact hmin z hz) hdx
          have hcnt := count_set hdx
          have hct : (dn.set x.state.toNat true).count true ≤ 3 * (grG g).N := by
            have := List.count_le_length (a := true) (l := dn.set x.state.toNat true)
            rw [List.length_set, hd.ld] at this; exact this
          have hwle := Wk.le hEN (fun s hs => by simp at hs; omega) w
          simp only [Prod.mk.injEq] at ew
          refine S_spread (f := ⟨g, c, noOf g, best.set x.state.toNat x.worth⟩) (S := [3 * numN g b, 3 * numN g b + 1, 3 * numN g b + 2]) (best := (best.map pw).set x.state.toNat (pw x.worth)) (dn := dn.set x.state.toNat true) (C := m - 1) ⟨hg, hc, rfl⟩ hx0 hxN (by omega) ⟨⟨[], ho⟩, hh', hs', ?_, by omega⟩ (fun l'' hI => ?_)
          · have hl18 := (hEN _ hxN).1
            simp only
            rw [hcnt]
            omega
          · obtain ⟨⟨L, hr⟩, hh'', hs'', hc2, _⟩ := hI
            simp only [List.length_nil] at hc2
            have hcl2 := hr.close
            rw [← List.map_set] at hcl2
            rw [hcnt] at hc2 hct
            refine hX (l''.length + 18 * (3 * (grG g).N - (dn.set x.state.toNat true).count true)) (best.set x.state.toNat x.worth, l'', dn.set x.state.toNat true) ?_ ⟨hcl2, hh'', hs'', rfl, ?_⟩ <;> (rw [hcnt]; omega)
      · have hl : l = [] := by
          cases l with
          | nil => rfl
          | cons y r => simp at e
        subst hl
        have hle := hd.least
        rw [List.map_map] at hle
        refine h best ⟨hle, fun s w hw => ?_⟩
        have hsl : s < dn.length := by rw [hd.ld, ← hd.lb, List.length_map]; exact (List.getElem?_eq_some_iff.1 hw).1
        have hwm : (best.map pw)[s]? = some (pw w) := by rw [List.getElem?_map, hw]; rfl
        cases hq : dn[s] with
        | false =>
          have := hd.off s (by rw [List.getElem?_eq_getElem hsl, hq])
          rw [hwm] at this; injection this with this
          simp only [pw, Prod.mk.injEq] at this
          left; cases w; simp only at this; rw [this.1, this.2]
        | true =>
          obtain ⟨k, n, wk, hb', h0, hn⟩ := hd.on s (by rw [List.getElem?_eq_getElem hsl, hq])
          rw [hwm] at hb'; injection hb' with hb'
          simp only [pw, Prod.mk.injEq] at hb'
          have hcl : dn.count true ≤ dn.length := List.count_le_length
          rw [hd.ld] at hcl
          have hwle := Wk.le hEN (fun s hs => by simp at hs; omega) wk
          right; omega
theorem fld_get (hg : GOk g) {b : Nat} {best : List R7Worth} (hf : FldOk g c b best) {s : Nat} (hs : s < 3 * (grG g).N) : ∃ w, best[s]? = some w ∧ (best.map kW)[s]? = some (kW w) := by
  have hl : s < best.length := by have := hf.least.len; rw [List.length_map] at this; omega
  exact ⟨best[s], List.getElem?_eq_getElem hl, by rw [List.getElem?_map, List.getElem?_eq_getElem hl]; rfl⟩
theorem kW_of {w : R7Worth} (h : w = ⟨0, 0⟩ ∨ (0 ≤ w.cost ∧ w.cost ≤ 360000000 ∧ 1 ≤ w.cells ∧ w.cells ≤ 120000)) : leastQ (kW w) = (w.cost, decide (w.cells > 0)) ∧ (w.cells > 0 ↔ 0 ≤ kW w) ∧ (0 ≤ kW w → kW w / kB = w.cost) := by
  have hkB : kB = 1048576 := rfl
  rcases h with rfl | ⟨h1, h2, h3, h4⟩
  · exact ⟨rfl, by decide, by decide⟩
  · have e : kW w = w.cost * kB + w.cells - 1 := by unfold kW keyP pw; rw [if_neg (by simp only; omega)]
    have hd : kW w / kB = w.cost := by rw [e, hkB]; omega
    have hp : 0 ≤ kW w := by rw [e, hkB]; omega
    refine ⟨?_, ⟨fun _ => hp, fun _ => by omega⟩, fun _ => hd⟩
    unfold leastQ
    rw [if_neg (by omega), hd, decide_eq_true (by omega)]
end
end Go.Proofs.Ytihjaehkdgdenaa
