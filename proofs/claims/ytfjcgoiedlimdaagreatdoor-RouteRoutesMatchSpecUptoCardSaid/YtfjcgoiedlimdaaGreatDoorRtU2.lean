/- Chapter texts of ours, as far as the claim needs them. -/
import Derived.Test.YtfjcgoiedlimdaaGreatDoorRtQ
import Derived.Test.YtfjcgoiedlimdaaGreatDoorRtN2
import Derived.Test.YtfjcgoiedlimdaaGreatDoorRtR1
import Derived.Test.YtfjcgoiedlimdaaGreatDoorRtS2
import Derived.Test.YtfjcgoiedlimdaaGreatDoorRtN4
namespace Go.Proofs.YtfjcgoiedlimdaaGreatDoor
open Go Go.RowKit
set_option linter.unusedVariables false
set_option linter.unusedSectionVars false
set_option linter.unusedSimpArgs false
def pw (w : fC) : Int × Int := (w.cost, w.cells)
def kW (w : fC) : Int := Jy (pw w)
structure BA (g : Grid) (c : gy) (b : Nat) (best : List fC) : Prop where
  least : Least ((grC g c).E true) [3 * b, 3 * b + 1, 3 * b + 2] (3 * (grG g).N) (best.map kW)
  val : ∀ (s : Nat) w, best[s]? = some w → w = ⟨0, 0⟩ ∨ (0 ≤ w.cost ∧ w.cost ≤ 360000000 ∧ 1 ≤ w.cells ∧ w.cells ≤ 120000)
section
variable {g : Grid} {c : gy}
theorem Ig (hg : GOk g) : w64 ((w64 ((w64 (3 * g.W)) * g.H)) * g.Layers) = ((3 * (grG g).N : Nat) : Int) := by
  have hN := J6 hg.sz
  have hN2 := hg.N
  have hW := hg.sz.W; have hH := hg.sz.H; have hL := hg.sz.L
  have h1 : 0 ≤ 3 * g.W * g.H ∧ 3 * g.W * g.H ≤ 600 * 200 := ⟨Int.mul_nonneg (by omega) (by omega), Int.mul_le_mul (by omega) hH.2 (by omega) (by omega)⟩
  rw [fO (n := 3 * g.W) (by omega) (by omega), fO (n := 3 * g.W * g.H) (by omega) (by omega)]
  have e : 3 * g.W * g.H * g.Layers = 3 * (g.W * g.H * g.Layers) := by rw [Int.mul_assoc 3, Int.mul_assoc 3]
  rw [e, hN, fO] <;> omega
theorem MJ (hg : GOk g) (hc : COk c) {b : Cell} (hb : inG g b = true) {Q : Option (List Bool × List fC) → Prop} (h : ∀ best, BA g c (gq g b) best → Q (some (kS g, best))) : rQ g c b Q := by
  have hN := J6 hg.sz
  have hN2 := hg.N
  have hnb := oK hg.sz hb
  have hE := (uo hg hc).ok.good true
  have hEN : Ih ((grC g c).E true) (3 * (grG g).N) 3000 := hE
  have hkB : kB = 1048576 := rfl
  unfold rQ
  rw [Ig hg, DF hg.sz, hN]
  have m1 : (0 ≤ ((grG g).N : Int) ∧ ((grG g).N : Int) * 1 ≤ 281474976710656) := ⟨by omega, by omega⟩
  have m2 : (0 ≤ ((3 * (grG g).N : Nat) : Int) ∧ ((3 * (grG g).N : Nat) : Int) * 16 ≤ 281474976710656) := ⟨by omega, by omega⟩
  suffices key : forIn' (fun k x (s : List Bool) next => jb g c k x s (fun l2 => next l2)) (fun (s : List Bool) => (fun (l2 : List Bool) => lp (fun again (s : List eY × Int) => iF g c b Q l2 (fun l4 n2 => again (l4, n2)) s.1 s.2) (([] : List eY), 0)) s) g.Blocked 0 (List.replicate (((grG g).N : Nat) : Int).toNat false) from ⟨⟨m1, m2, key⟩, ⟨m2, m1, key⟩⟩
  rw [Int.toNat_natCast]
  refine jO (fun k (l : List Bool) => l.length = (grG g).N ∧ ∀ n, n < (grG g).N → l[n]? = some ((g.Blocked.take k).any (fun c => decide (gq g c = n)))) ⟨by simp, fun n hn => ?_⟩ (fun k x l hx hI next hn => ?_) (fun l hI => ?_)
  · rw [List.getElem?_replicate, if_pos hn]; simp
  · unfold jb
    have hxm : x ∈ g.Blocked := List.mem_of_getElem? hx
    have hxg := hg.blk x hxm
    have hxl := oK hg.sz hxg
    refine sD (f := ⟨g, c, l, _⟩) hg.sz hxg ?_
    refine gG (List.getElem?_eq_getElem (by rw [hI.1]; exact hxl)) ?_
    rw [Int.toNat_natCast]
    refine hn _ ⟨by rw [List.length_set]; exact hI.1, fun n hnn => ?_⟩
    rw [List.take_add_one, hx, List.any_append, List.getElem?_set]
    simp only [Option.toList, List.any_cons, List.any_nil, Bool.or_false]
    split
    · rename_i e; rw [if_pos (by rw [hI.1]; exact hxl)]; simp [e]
    · rename_i e; rw [hI.2 n hnn]; simp [e]
  · have hl : l = kS g := by
      apply List.ext_getElem?
      intro n
      rcases Nat.lt_or_ge n (grG g).N with hn | hn
      · rw [hI.2 n hn, zQ hn, List.take_length]
      · rw [List.getElem?_eq_none (by rw [hI.1]; exact hn), List.getElem?_eq_none (by unfold kS; simp; exact hn)]
    subst hl
    -- the three states of the goal
    have start : ∀ (j : Nat) (l : List eY) (again : List eY → Int → Prop), j < 3 → l.length ≤ 3 → (∀ y ∈ l, okE y) → vM l → (∀ l', l'.Perm (⟨⟨0, 1⟩, ((3 * gq g b + j : Nat) : Int)⟩ :: l) → vM l' → again l' ((j + 1 : Nat) : Int)) → iF g c b Q (kS g) again l (j : Int) := by
      intro j l again hj hl hok hh hk
      unfold iF
      rw [decide_eq_true (show (j : Int) < 3 by omega)]
      simp only [iJ]
      refine sD (f := ⟨g, c, kS g, _⟩) hg.sz hb ?_
      rw [show w64 ((w64 (3 * (gq g b : Int))) + (j : Int)) = ((3 * gq g b + j : Nat) : Int) by rw [fO (n := 3 * (gq g b : Int)) (by omega) (by omega), fO] <;> omega]
      refine LX (by omega) hok ⟨by simp, by simp [hkB]⟩ hh (fun l' hp hh' => ?_)
      rw [show w64 ((j : Int) + 1) = ((j + 1 : Nat) : Int) by rw [fO] <;> omega]
      exact hk l' hp hh'
    have okS : ∀ (j : Nat) (l l' : List eY), (∀ y ∈ l, okE y) → l'.Perm (⟨⟨0, 1⟩, ((3 * gq g b + j : Nat) : Int)⟩ :: l) → ∀ y ∈ l', okE y := fun j l l' hok hp y hy => by
      rcases List.mem_cons.1 (hp.mem_iff.1 hy) with h1 | h1
      · subst h1; exact ⟨by simp, by simp [hkB]⟩
      · exact hok y h1
    refine ⟨4, ?_⟩
    refine start 0 [] _ (by omega) (by simp) (fun y hy => by cases hy) (fun k h1 h2 => absurd h2 (by simp)) (fun l1 hp1 hh1 => ?_)
    have ok1 := okS 0 [] l1 (fun y hy => by cases hy) hp1
    refine start 1 l1 _ (by omega) (by rw [hp1.length_eq]; simp) ok1 hh1 (fun l2 hp2 hh2 => ?_)
    have ok2 := okS 1 l1 l2 ok1 hp2
    refine start 2 l2 _ (by omega) (by rw [hp2.length_eq, List.length_cons, hp1.length_eq]; simp) ok2 hh2 (fun l3 hp3 hh3 => ?_)
    have hl3 : l3.length = 3 := by rw [hp3.length_eq, List.length_cons, hp2.length_eq, List.length_cons, hp1.length_eq]; rfl
    have mem3 : ∀ y, y ∈ l3 ↔ y = ⟨⟨0, 1⟩, ((3 * gq g b + 2 : Nat) : Int)⟩ ∨ y = ⟨⟨0, 1⟩, ((3 * gq g b + 1 : Nat) : Int)⟩ ∨ y = ⟨⟨0, 1⟩, ((3 * gq g b + 0 : Nat) : Int)⟩ := fun y => by
      rw [hp3.mem_iff, List.mem_cons, hp2.mem_iff, List.mem_cons, hp1.mem_iff, List.mem_singleton]
    show iF g c b Q (kS g) _ l3 3
    unfold iF
    rw [show decide ((3 : Int) < 3) = false by decide]
    simp only [gY]
    rw [Ig hg, Int.toNat_natCast, List.length_replicate]
    refine ⟨⟨by omega, by omega⟩, ?_⟩
    refine oU (fun m (s : List fC × List eY × List Bool) => BG ((grC g c).E true) [3 * gq g b, 3 * gq g b + 1, 3 * gq g b + 2] (3 * (grG g).N) (fun _ => False) (s.1.map pw) s.2.2 (s.2.1.map pr7) ∧ vM s.2.1 ∧ (∀ y ∈ s.2.1, 0 ≤ y.state) ∧ m = s.2.1.length + 18 * (3 * (grG g).N - s.2.2.count true) ∧ m ≤ 4000000) (n := 3 + 18 * (3 * (grG g).N)) ⟨?_, hh3, fun y hy => ?_, ?_, by omega⟩ ?_
    · -- at first
      have cnt : (List.replicate (3 * (grG g).N) false).count true = 0 := by rw [List.count_replicate]; simp
      refine ⟨by simp, by simp, fun s hs => ?_, fun s hs => ?_, fun x hx => ?_, fun x hx s b' hs => ?_, fun s hs => .inr ?_, fun s b' hs => ?_⟩
      · rw [List.getElem?_replicate] at hs
        split at hs
        · rename_i h1; rw [List.map_replicate, List.getElem?_replicate, if_pos h1]; rfl
        · cases hs
      · rw [List.getElem?_replicate] at hs; split at hs <;> simp at hs
      · obtain ⟨y, hy, rfl⟩ := List.mem_map.1 hx
        rcases (mem3 y).1 hy with rfl | rfl | rfl
        · exact ⟨by simp only [pr7, Int.toNat_natCast]; omega, 0, 0, .start (by simp [pr7]; omega), rfl, Int.le_refl _, Nat.zero_le _⟩
        · exact ⟨by simp only [pr7, Int.toNat_natCast]; omega, 0, 0, .start (by simp [pr7]; omega), rfl, Int.le_refl _, Nat.zero_le _⟩
        · exact ⟨by simp only [pr7, Int.toNat_natCast]; omega, 0, 0, .start (by simp [pr7]; omega), rfl, Int.le_refl _, Nat.zero_le _⟩
      · rw [List.getElem?_replicate] at hs; split at hs <;> simp at hs
      · simp only [List.mem_cons, List.not_mem_nil, or_false] at hs
        rcases hs with rfl | rfl | rfl
        · exact List.mem_map.2 ⟨_, (mem3 _).2 (.inr (.inr rfl)), by simp [pr7]; omega⟩
        · exact List.mem_map.2 ⟨_, (mem3 _).2 (.inr (.inl rfl)), by simp [pr7]; omega⟩
        · exact List.mem_map.2 ⟨_, (mem3 _).2 (.inl rfl), by simp [pr7]; omega⟩
      · rw [List.getElem?_replicate] at hs; split at hs <;> simp at hs
    · rcases (mem3 y).1 hy with rfl | rfl | rfl <;> simp only <;> omega
    · simp only [hl3, List.count_replicate]; simp
    · rintro m ⟨best, l, dn⟩ X ⟨hd, hh, hs, hm, hmb⟩ hX
      simp only at hd hh hs hm
      show jA g c Q (kS g) (fun l8 l9 l10 => X (l8, l9, l10)) best l dn
      unfold jA
      refine fB (fun e => ?_) (fun e => ?_)
      · have h0 : 0 < l.length := by simpa using e
        have hok := KP (by omega) hd
        refine Ql (by omega) h0 hok hh (fun x l' hp hmin hh' => ?_)
        have hd2 : BG ((grC g c).E true) [3 * gq g b, 3 * gq g b + 1, 3 * gq g b + 2] (3 * (grG g).N) (fun _ => False) (best.map pw) dn (pr7 x :: l'.map pr7) := hd.perm (hp.map pr7).symm
        have hx0 : 0 ≤ x.state := hs x (hp.mem_iff.2 List.mem_cons_self)
        have hs' : ∀ y ∈ l', 0 ≤ y.state := fun y hy => hs y (hp.mem_iff.2 (List.mem_cons_of_mem _ hy))
        have hll : l.length = l'.length + 1 := by rw [hp.length_eq]; rfl
        obtain ⟨hxN, k, n, w, ew, hk0, hnc⟩ := hd2.ent (pr7 x) List.mem_cons_self
        simp only [pr7] at hxN w ew
        have hcl : dn.count true ≤ dn.length := List.count_le_length
        rw [hd.ld] at hcl
        have hxd : x.state.toNat < dn.length := by rw [hd.ld]; exact hxN
        refine ⟨hx0, dn[x.state.toNat], List.getElem?_eq_getElem hxd, ?_⟩
        have hdx : dn[x.state.toNat]? = some dn[x.state.toNat] := List.getElem?_eq_getElem hxd
        refine fB (fun e2 => ?_) (fun e2 => ?_)
        · rw [e2] at hdx
          exact hX (l'.length + 18 * (3 * (grG g).N - dn.count true)) (best, l', dn) (by omega) ⟨hd2.skip hdx, hh', hs', rfl, by omega⟩
        · rw [e2] at hdx
          have hbl : x.state.toNat < best.length := by have := hd.lb; rw [List.length_map] at this; rw [this]; exact hxN
          refine ⟨hx0, best[x.state.toNat], List.getElem?_eq_getElem hbl, ?_⟩
          have ho := hd2.open_ (fun y hy => by obtain ⟨z, hz, rfl⟩ := List.mem_map.1 hy; exact hmin z hz) hdx
          have hcnt := count_set hdx
          have hct : (dn.set x.state.toNat true).count true ≤ 3 * (grG g).N := by
            have := List.count_le_length (a := true) (l := dn.set x.state.toNat true)
            rw [List.length_set, hd.ld] at this; exact this
          have hwle := Wk.le hEN (fun s hs => by simp at hs; omega) w
          simp only [Prod.mk.injEq] at ew
          refine Oz (f := ⟨g, c, kS g, best.set x.state.toNat x.worth⟩) (S := [3 * gq g b, 3 * gq g b + 1, 3 * gq g b + 2]) (best := (best.map pw).set x.state.toNat (pw x.worth)) (dn := dn.set x.state.toNat true) (C := m - 1) ⟨hg, hc, rfl⟩ hx0 hxN (by omega) ⟨⟨[], ho⟩, hh', hs', ?_, by omega⟩ (fun l'' hI => ?_)
          · have hl18 := (hEN _ hxN).1
            simp only
            rw [hcnt]
            omega
          · obtain ⟨⟨L, hr⟩, hh'', hs'', hc2, _⟩ := hI
            simp only [List.length_nil] at hc2
            have hcl2 := hr.close
            rw [← List.map_set] at hcl2
            rw [hcnt] at hc2 hct
            refine hX (l''.length + 18 * (3 * (grG g).N - (dn.set x.state.toNat true).count true)) (best.set x.state.toNat x.worth, l'', dn.set x.state.toNat true) ?_ ⟨hcl2, hh'', hs'', rfl, ?_⟩ <;> (rw [hcnt]; omega)
      · have hl : l = [] := by
          cases l with
          | nil => rfl
          | cons y r => simp at e
        subst hl
        have hle := hd.least
        rw [List.map_map] at hle
        refine h best ⟨hle, fun s w hw => ?_⟩
        have hsl : s < dn.length := by rw [hd.ld, ← hd.lb, List.length_map]; exact (List.getElem?_eq_some_iff.1 hw).1
        have hwm : (best.map pw)[s]? = some (pw w) := by rw [List.getElem?_map, hw]; rfl
        cases hq : dn[s] with
        | false =>
          have := hd.off s (by rw [List.getElem?_eq_getElem hsl, hq])
          rw [hwm] at this; injection this with this
          simp only [pw, Prod.mk.injEq] at this
          left; cases w; simp only at this; rw [this.1, this.2]
        | true =>
          obtain ⟨k, n, wk, hb', h0, hn⟩ := hd.on s (by rw [List.getElem?_eq_getElem hsl, hq])
          rw [hwm] at hb'; injection hb' with hb'
          simp only [pw, Prod.mk.injEq] at hb'
          have hcl : dn.count true ≤ dn.length := List.count_le_length
          rw [hd.ld] at hcl
          have hwle := Wk.le hEN (fun s hs => by simp at hs; omega) wk
          right; omega
theorem Iw (hg : GOk g) {b : Nat} {best : List fC} (hf : BA g c b best) {s : Nat} (hs : s < 3 * (grG g).N) : ∃ w, best[s]? = some w ∧ (best.map kW)[s]? = some (kW w) := by
  have hl : s < best.length := by have := hf.least.len; rw [List.length_map] at this; omega
  exact ⟨best[s], List.getElem?_eq_getElem hl, by rw [List.getElem?_map, List.getElem?_eq_getElem hl]; rfl⟩
theorem Qr {w : fC} (h : w = ⟨0, 0⟩ ∨ (0 ≤ w.cost ∧ w.cost ≤ 360000000 ∧ 1 ≤ w.cells ∧ w.cells ≤ 120000)) : Eh (kW w) = (w.cost, decide (w.cells > 0)) ∧ (w.cells > 0 ↔ 0 ≤ kW w) ∧ (0 ≤ kW w → kW w / kB = w.cost) := by
  have hkB : kB = 1048576 := rfl
  rcases h with rfl | ⟨h1, h2, h3, h4⟩
  · exact ⟨rfl, by decide, by decide⟩
  · have e : kW w = w.cost * kB + w.cells - 1 := by unfold kW Jy pw; rw [if_neg (by simp only; omega)]
    have hd : kW w / kB = w.cost := by rw [e, hkB]; omega
    have hp : 0 ≤ kW w := by rw [e, hkB]; omega
    refine ⟨?_, ⟨fun _ => hp, fun _ => by omega⟩, fun _ => hd⟩
    unfold Eh
    rw [if_neg (by omega), hd, decide_eq_true (by omega)]
end
section
variable {g : Grid} {c : gy}
theorem I8 (hg : GOk g) (hc : COk c) {b : Nat} {best : List fC} (hf : BA g c b best) {s : Nat} {w : fC} (hw : best[s]? = some w) : (w.cells > 1 ↔ 0 < kW w) ∧ (w.cells = 0 ↔ kW w < 0) ∧ (0 ≤ kW w → kW w = w.cost * kB + w.cells - 1 ∧ 1 ≤ w.cells) := by
  have hkB : kB = 1048576 := rfl
  have hk : (best.map kW)[s]? = some (kW w) := by rw [List.getElem?_map, hw]; rfl
  rcases hf.val s w hw with rfl | ⟨h1, h2, h3, h4⟩
  · exact ⟨by decide, by decide, by decide⟩
  · have e : kW w = w.cost * kB + w.cells - 1 := by unfold kW Jy pw; rw [if_neg (by simp only; omega)]
    have hp : 0 ≤ kW w := by rw [e, hkB]; omega
    refine ⟨⟨fun h => by rw [e, hkB]; omega, fun h => ?_⟩, ⟨fun h => by omega, fun h => by omega⟩, fun _ => ⟨e, h3⟩⟩
    obtain ⟨k, n, wk, ek, _, hn⟩ := hf.least.way s _ hk hp
    have hN := hg.N
    cases wk with
    | start _ => simp at ek; omega
    | step _ _ => rw [e, hkB] at ek; push_cast at ek; omega
theorem JX (hg : GOk g) (hc : COk c) {b : Nat} {best : List fC} (hf : BA g c b best) (hT : (grC g c).lY b (best.map kW)) {n : Nat} (hn : n < (grG g).N) {d : Int} (hd : (best.map kW)[3 * n]? = some d) (h0 : 0 ≤ d) {Q : List Cell → Prop} (h : ∀ l, (grC g c).Goes (best.map kW) (3 * n) l → Q (cellsS g (3 * n :: l))) : uQ ⟨g, c, kS g, best⟩ (gK g n) Q := by
  have hN := hg.N
  have hkB : kB = 1048576 := rfl
  obtain ⟨full, hfull⟩ := hT.goes _ _ _ hd h0 (Nat.le_refl _)
  have hlen := (zW hT hfull hd h0).1
  have hlen' : (3 * n :: full).length ≤ (grG g).N := hlen
  have hF : FOk ⟨g, c, kS g, best⟩ := ⟨hg, hc, rfl⟩
  unfold uQ
  refine oU (fun m (s : List Cell × Cell × Int) => ∃ (pre : List Nat) (u : Nat) (rest : List Nat), s.2.1 = gK g (u / 3) ∧ s.2.2 = ((u % 3 : Nat) : Int) ∧ s.1 = cellsS g (pre ++ [u]) ∧ (grC g c).Goes (best.map kW) u rest ∧ pre ++ u :: rest = 3 * n :: full ∧ rest.length = m) (n := full.length) ⟨[], 3 * n, full, by rw [show 3 * n / 3 = n by omega], by simp only; omega, by simp only [cellsS, List.nil_append, List.map_cons, List.map_nil]; rw [show 3 * n / 3 = n by omega], hfull, rfl, rfl⟩ ?_
  rintro m ⟨l2, b2, n2⟩ X ⟨pre, u, rest, h1, h2, h2', h3, h4, h5⟩ hX
  simp only at h1 h2 h2'
  subst h1; subst h2; subst h2'
  show qc _ (gK g n) Q (fun l2 b2 n2 => X (l2, b2, n2)) _ (gK g (u / 3)) ((u % 3 : Nat) : Int)
  have hpl : (pre ++ u :: rest).length ≤ (grG g).N := by rw [h4]; exact hlen'
  have hug : ∃ du, (best.map kW)[u]? = some du ∧ 0 ≤ du := by
    cases h3 with
    | stop hu hz => exact ⟨_, hu, by omega⟩
    | step hu hpos _ _ => exact ⟨_, hu, by omega⟩
  obtain ⟨du, hu, hu0⟩ := hug
  have hus := hT.yg hu hu0
  have huN : u < 3 * (grG g).N := hus.1
  have huc : u / 3 < (grG g).N := by omega
  obtain ⟨w, hw, hkw⟩ := Iw hg hf huN
  rw [hu] at hkw; injection hkw with hkw
  have hinu := qP hg.sz huc
  have eat : w64 ((w64 (3 * ((u / 3 : Nat) : Int))) + ((u % 3 : Nat) : Int)) = (u : Int) := by rw [fO (n := 3 * _) (by omega) (by omega), fO] <;> omega
  obtain ⟨c1, c2, c3⟩ := I8 hg hc hf hw
  unfold qc
  refine sD (f := ⟨g, c, kS g, best⟩) hg.sz hinu ?_
  rw [jh, eat]
  refine gG hw ?_
  cases h3 with
  | stop hu' hz =>
    rw [hu] at hu'; injection hu' with hu'
    rw [decide_eq_false (fun hh => by have := c1.1 hh; omega)]
    simp only [gY]
    rw [h4]; exact h full hfull
  | @step _ t du' k l hu' hpos hp hg' =>
    rw [hu] at hu'; injection hu' with hu'; subst hu'
    rw [decide_eq_true (c1.2 (by omega))]
    simp only [iJ]
    refine sD (f := ⟨g, c, kS g, best⟩) hg.sz hinu ?_
    rw [jh, eat]
    refine gG hw ?_
    refine DJ (f := ⟨g, c, kS g, best⟩) hF huc ?_
    obtain ⟨ew, hw1⟩ := c3 (by omega)
    have hwv : 0 ≤ w.cost ∧ w.cost ≤ 360000000 ∧ 1 ≤ w.cells ∧ w.cells ≤ 120000 := by
      rcases hf.val u w hw with rfl | hv
      · exact absurd hw1 (by decide)
      · exact hv
    have loop : ∀ (R L : List (Nat × Int)) (kk : Nat), (grC g c).zV (u / 3) = L ++ R → Gr.pick (best.map kW) du (L.flatMap ((grC g c).el false u)) = none →
        forIn' (fun k x (s : Unit) next => jl ⟨g, c, kS g, best⟩ (gK g n) (cellsS g (pre ++ [u])) (gK g (u / 3)) ((u % 3 : Nat) : Int) (fun l2 b2 n2 => X (l2, b2, n2)) w k x (next ())) (fun (s : Unit) => (fun l2 b2 n2 => X (l2, b2, n2)) (cellsS g (pre ++ [u])) (gK g (u / 3)) ((u % 3 : Nat) : Int)) (R.map (fun e => gK g e.1)) kk () := by
      intro R
      induction R with
      | nil =>
        intro L kk hL hn
        rw [List.append_nil] at hL
        rw [← hL] at hn
        have hp2 : Gr.pick (best.map kW) du ((grC g c).E false u) = some (t, k) := hp
        rw [show (grC g c).E false u = ((grC g c).zV (u / 3)).flatMap ((grC g c).el false u) from rfl, hn] at hp2
        cases hp2
      | cons q r ih =>
        intro L kk hL hn
        obtain ⟨m', al⟩ := q
        have hmem : (m', al) ∈ (grC g c).zV (u / 3) := by rw [hL]; simp
        obtain ⟨hnb, hfree⟩ := ((grC g c).zS (n := u / 3) (m := m') (al := al) (by exact huc)).1 hmem
        have hax := Gr.Nb.ax hnb
        have hm' : m' < (grG g).N := hnb.2.1
        have hinm := qP hg.sz hm'
        show jl _ _ _ _ _ _ _ kk (gK g m') (forIn' _ _ (r.map (fun e => gK g e.1)) (kk + 1) ())
        unfold jl
        refine LW hg.sz hinu hinm ?_
        rw [show axC (gK g (u / 3)) (gK g m') = al from Ja hnb]
        -- the state of the neighbour
        obtain ⟨j, hj⟩ : ∃ j : Nat, j = (if al = 3 then u % 3 else al.toNat) := ⟨_, rfl⟩
        have hj3 : j < 3 := by rw [hj]; split <;> omega
        have hon := Gr.QA (G := grC g c) hus.1 hnb hfree
        rw [← hj] at hon
        obtain ⟨hsc1, hsc2⟩ := Ea hg hc huN hon
        have hcost := Gr.F8 hT.ok hus.1 hon
        rw [show (3 * m' + j) / 3 = m' by omega, show (3 * m' + j) % 3 = j by omega, show axC (gK g (u / 3)) (gK g m') = al from Ja hnb] at hsc2
        generalize hkk : (if al = 3 then (grC g c).via else (grC g c).base m' al + (grC g c).tn ((u % 3 : Nat) : Int) al) = ck at hon hsc2 hcost
        have hel : (grC g c).el false u (m', al) = [(3 * m' + j, ck)] := by
          rw [Lm, ← hj]
          by_cases h3 : al = 3
          · rw [if_pos h3] at hkk ⊢; rw [hkk]
          · rw [if_neg h3] at hkk ⊢; rw [Gr.Nb.base _ hnb, hkk]
        have go : lW ⟨g, c, kS g, best⟩ (gK g n) (cellsS g (pre ++ [u])) ((u % 3 : Nat) : Int) (fun l2 b2 n2 => X (l2, b2, n2)) w (gK g m') (forIn' (fun k x (s : Unit) next => jl ⟨g, c, kS g, best⟩ (gK g n) (cellsS g (pre ++ [u])) (gK g (u / 3)) ((u % 3 : Nat) : Int) (fun l2 b2 n2 => X (l2, b2, n2)) w k x (next ())) (fun (s : Unit) => (fun l2 b2 n2 => X (l2, b2, n2)) (cellsS g (pre ++ [u])) (gK g (u / 3)) ((u % 3 : Nat) : Int)) (r.map (fun e => gK g e.1)) (kk + 1) ()) al (j : Int) := by
          unfold lW
          refine sD (f := ⟨g, c, kS g, best⟩) hg.sz hinm ?_
          rw [jh, show w64 ((w64 (3 * (m' : Int))) + (j : Int)) = ((3 * m' + j : Nat) : Int) by rw [fO (n := 3 * _) (by omega) (by omega), fO] <;> omega]
          obtain ⟨v, hv, hkv⟩ := Iw hg hf (s := 3 * m' + j) (by omega)
          refine gG hv ?_
          have hvv := hf.val _ v hv
          obtain ⟨d1, d2, d3⟩ := I8 hg hc hf hv
          have hcells : v.cells ≤ 120000 ∧ 0 ≤ v.cells ∧ 0 ≤ v.cost ∧ v.cost ≤ 360000000 := by
            rcases hvv with rfl | hv2
            · decide
            · omega
          have hsn : fnd (Gr.pick (best.map kW) du ((L ++ [(m', al)]).flatMap ((grC g c).el false u))) = if 0 ≤ kW v ∧ kW v + (ck * kB + 1) = du then ((3 * m' + j : Nat) : Int) else -1 := by
            rw [List.flatMap_append, List.flatMap_cons, List.flatMap_nil, List.append_nil, hel, Ik, hn]
            rw [show fnd none = -1 from rfl]
            simp only [Gr.getD_some hkv]
            by_cases hc9 : 0 ≤ kW v ∧ kW v + (ck * kB + 1) = du
            · rw [if_pos hc9, if_pos ⟨by decide, hc9⟩]
            · rw [if_neg hc9, if_neg (fun hh => hc9 hh.2)]
          -- not this one
          have next : ¬ (0 ≤ kW v ∧ kW v + (ck * kB + 1) = du) → ja (cellsS g (pre ++ [u])) (fun l2 b2 n2 => X (l2, b2, n2)) (gK g m') (forIn' (fun k x (s : Unit) next => jl ⟨g, c, kS g, best⟩ (gK g n) (cellsS g (pre ++ [u])) (gK g (u / 3)) ((u % 3 : Nat) : Int) (fun l2 b2 n2 => X (l2, b2, n2)) w k x (next ())) (fun (s : Unit) => (fun l2 b2 n2 => X (l2, b2, n2)) (cellsS g (pre ++ [u])) (gK g (u / 3)) ((u % 3 : Nat) : Int)) (r.map (fun e => gK g e.1)) (kk + 1) ()) (j : Int) false := fun hno => by
            unfold ja
            simp only [gY]
            refine ih (L ++ [(m', al)]) (kk + 1) (by rw [hL]; simp) ?_
            rw [if_neg hno] at hsn
            cases hq : Gr.pick (best.map kW) du ((L ++ [(m', al)]).flatMap ((grC g c).el false u)) with
            | none => rfl
            | some e => rw [hq] at hsn; simp only [fnd] at hsn; omega
          rw [show w64 (w.cells - 1) = w.cells - 1 by rw [fO] <;> omega]
          refine fB (fun e => ?_) (fun e => ?_)
          · have ec : v.cells = w.cells - 1 := by simpa using e
            refine Ar ?_
            simp only
            rw [hsc2]
            rw [show w64 (v.cost + ck) = v.cost + ck by rw [fO] <;> omega]
            have hwc : 1 < w.cells := c1.2 (by omega)
            have hv0 : 0 ≤ kW v := by
              have := d2.2
              by_cases hh : 0 ≤ kW v
              · exact hh
              · have := d2.2 (by omega); omega
            obtain ⟨ev, _⟩ := d3 hv0
            by_cases hcc : v.cost + ck = w.cost
            · rw [show (v.cost + ck == w.cost) = true by simpa using hcc]
              have hyes : 0 ≤ kW v ∧ kW v + (ck * kB + 1) = du := ⟨hv0, by rw [hkw, ev, ew, ← hcc, Int.add_mul]; omega⟩
              -- this one it is
              have ht : t = 3 * m' + j := by
                rw [if_pos hyes] at hsn
                have hp2 : Gr.pick (best.map kW) du ((grC g c).E false u) = some (t, k) := hp
                rw [show (grC g c).E false u = ((grC g c).zV (u / 3)).flatMap ((grC g c).el false u) from rfl, hL, show L ++ (m', al) :: r = (L ++ [(m', al)]) ++ r by simp, List.flatMap_append] at hp2
                cases hq : Gr.pick (best.map kW) du ((L ++ [(m', al)]).flatMap ((grC g c).el false u)) with
                | none => rw [hq] at hsn; simp only [fnd] at hsn; omega
                | some e =>
                  rw [hq] at hsn
                  simp only [fnd] at hsn
                  unfold Gr.pick at hp2 hq
                  rw [List.find?_append, hq] at hp2
                  simp only [Option.or] at hp2
                  injection hp2 with hp2
                  rw [hp2] at hsn
                  simp only at hsn
                  omega
              unfold ja
              simp only [iJ]
              simp only [List.length_append, List.length_cons] at hpl
              refine ⟨uJ (by simp only [cellsS, List.length_append, List.length_map, List.length_singleton]; omega) (by decide), ?_⟩
              subst ht
              refine hX l.length _ (by rw [← h5]; simp) ⟨pre ++ [u], 3 * m' + j, l, by simp only; rw [show (3 * m' + j) / 3 = m' by omega], by simp only; rw [show (3 * m' + j) % 3 = j by omega], ?_, hg', by rw [List.append_assoc]; exact h4, rfl⟩
              simp only [cellsS, List.map_append, List.map_cons, List.map_nil]
              rw [show (3 * m' + j) / 3 = m' by omega]
            · rw [show (v.cost + ck == w.cost) = false by simpa using hcc]
              exact next (fun hh => hcc (by rw [hkw, ev, ew, hkB] at hh; omega))
          · have ec : v.cells ≠ w.cells - 1 := by simpa using e
            exact next (fun hh => by
              obtain ⟨ev, hv1⟩ := d3 hh.1
              rw [hkw, ev, ew, hkB] at hh
              omega)
        by_cases h3 : al = 3
        · rw [if_pos h3] at hj
          rw [show (al == 3) = true by simpa using h3]
          simp only [iJ]
          rw [← hj]
          rw [← hj] at go
          exact go
        · rw [if_neg h3] at hj
          rw [show (al == 3) = false by simpa using h3]
          simp only [gY]
          have hja : (j : Int) = al := by omega
          rw [hja] at go
          exact go
    exact loop _ [] 0 rfl rfl
end
end Go.Proofs.YtfjcgoiedlimdaaGreatDoor
