/- Chapter texts of ours, as far as the claim needs them. -/
import Derived.Test.YtbegofbmbcghdaaGreatDoorHoL
import Derived.Test.YtbegofbmbcghdaaGreatDoorHoU
import Derived.Test.YtbegofbmbcghdaaGreatDoorRows
import Derived.Test.YtbegofbmbcghdaaGreatDoorBytes
import Derived.LaidSub
import Derived.MakeChecks
namespace Go.Proofs.YtbegofbmbcghdaaGreatDoor
open Go Go.RowKit
set_option linter.unusedVariables false
set_option linter.unusedSectionVars false
set_option linter.unusedSimpArgs false
theorem NV {l : List gy} {k : Nat} {d : gy} (h : l[k]? = some d) : total (l.take (k + 1)) = total (l.take k) + (mr d.Jobs + d.Missing.length) := by
  unfold total
  rw [List.take_add_one, h, List.map_append, List.sum_append]
  simp
theorem Px (l : List gy) (k : Nat) : total (l.take k) ≤ total l := by
  have h : total l = total (l.take k) + total (l.drop k) := by
    unfold total
    rw [← List.sum_append, ← List.map_append, List.take_append_drop]
  omega
theorem NK {l : List Job} {k : Nat} {j : Job} (h : l[k]? = some j) : mr (l.take (k + 1)) = mr (l.take k) + j.Holes.length := by
  unfold mr
  rw [List.take_add_one, h, List.flatMap_append, List.length_append]
  simp
theorem Qd (l : List Job) (k : Nat) : mr (l.take k) ≤ mr l := by
  have h : mr l = mr (l.take k) + mr (l.drop k) := by
    unfold mr
    rw [← List.length_append, ← List.flatMap_append, List.take_append_drop]
  omega
theorem EH (o : Order) (bits : List Bit) (near : Int) (hf : Fits.fits o) (hbf : Fits.fits bits) : wB o bits near (· = true) := by
  unfold wB
  refine Nq hf hbf (fun s f hn => eU (fun _ => eU (fun _ => Gg rfl) (fun e => by simp at e)) (fun e => absurd (by simpa using e) hn)) (fun l ht hb hst hl hd hin => eU (fun e => by simp at e) (fun _ => ?_))
  refine Ep (fun m => ((total (l.take m) : Int), (m : Int))) l.length rfl (fun X m hm hX => ?_) (fun X => ?_)
  · have hx : l[m]? = some l[m] := List.getElem?_eq_getElem hm
    generalize l[m] = d at hx
    have ok := hd d (List.mem_of_getElem? hx)
    have t1 := NV hx
    have t2 := Px l (m + 1)
    unfold nN
    dsimp only
    refine eU (fun _ => ?_) (fun e => absurd (of_decide_eq_false e) (by omega))
    refine Ep (fun j => (((total (l.take m) + mr (d.Jobs.take j) : Nat) : Int), (j : Int))) d.Jobs.length (by simp [mr]) (fun Y j hj hY => ?_) (fun Y => ?_)
    · have hy : d.Jobs[j]? = some d.Jobs[j] := List.getElem?_eq_getElem hj
      generalize d.Jobs[j] = q at hy
      have u1 := NK hy
      have u2 := Qd d.Jobs (j + 1)
      unfold nM
      dsimp only
      refine gW hx (eU (fun _ => gW hy ?_) (fun e => absurd (of_decide_eq_false e) (by omega)))
      rw [show w64 (((total (l.take m) + mr (d.Jobs.take j) : Nat) : Int) + (q.Holes.length : Int)) = ((total (l.take m) + mr (d.Jobs.take (j + 1)) : Nat) : Int) by rw [gV (by omega) (by omega)]; omega]
      rw [show w64 ((j : Int) + 1) = ((j + 1 : Nat) : Int) by have := ok.jobs; rw [gV (by omega) (by omega)]; omega]
      exact hY
    · unfold nM
      dsimp only
      rw [List.take_length]
      refine gW hx (eU (fun e => absurd (of_decide_eq_true e) (by omega)) (fun _ => ?_))
      refine Ep (fun i => (i : Int)) d.Missing.length rfl (fun Z i hi hZ => ?_) (fun Z => ?_)
      · have hz : d.Missing[i]? = some d.Missing[i] := List.getElem?_eq_getElem hi
        generalize d.Missing[i] = x at hz
        obtain ⟨k, b, rfl, hkb, hs⟩ := ok.miss x (List.mem_of_getElem? hz)
        have hkl := TL hkb
        have hgo : lm (· = true) (i : Int) (fun n10 => Z n10) false := by
          refine eU (fun e => by cases e) (fun _ => ?_)
          rw [show w64 ((i : Int) + 1) = ((i + 1 : Nat) : Int) by rw [gV (by omega) (by omega)]; omega]
          exact hZ
        have hs1 : w64 (b.From + 1) = d.gU.From := congrArg Through.From hs
        have hs2 : w64 (b.To + 1) = d.gU.To := congrArg Through.To hs
        unfold nO
        dsimp only
        refine eU (fun _ => gW hz (eU (fun e => absurd (of_decide_eq_true e) (by omega)) (fun _ => eU (fun e => absurd (of_decide_eq_true e) (by omega)) (fun _ => gW hkb (eU (fun e => ?_) (fun _ => ?_)))))) (fun e => absurd (of_decide_eq_false e) (by omega))
        · rw [hs1] at e; simp at e
        · rw [hs2]; simpa using hgo
      · unfold nO
        dsimp only
        refine eU (fun e => absurd (of_decide_eq_true e) (by omega)) (fun _ => ?_)
        rw [show w64 (((total (l.take m) + mr d.Jobs : Nat) : Int) + (d.Missing.length : Int)) = ((total (l.take (m + 1)) : Nat) : Int) by rw [gV (by omega) (by omega)]; omega]
        rw [show w64 ((m : Int) + 1) = ((m + 1 : Nat) : Int) by rw [gV (by omega) (by omega)]; omega]
        exact hX
  · unfold nN
    dsimp only
    rw [List.take_length, ht]
    exact eU (fun e => absurd (of_decide_eq_true e) (by omega)) (fun _ => eU (fun _ => Gg rfl) (fun e => by simp at e))
theorem Jl {W : World} {laid : List (String × DataW Unit)} (h : laidMetH Tryz.prog laid W) (e : laid.filter (fun x => x.1 == "internal/strconv.uint64pow10") = [("internal/strconv.uint64pow10", Lib.tabData .u64 Lib.pow10Tab)]) : su Tryz.prog W (old W none_) := by
  have h1 := h.filter (fun x => x.1 == "internal/strconv.uint64pow10")
  rw [e, MakeChecks.laidMetH_plain _ _ _ (by kernel_rfl)] at h1
  exact su.of (Lib.tabIs_of_head (rest := []) (g := 1) (t := 281) (e := 230) (n := 20) (by kernel_rfl) (by kernel_rfl) Tryz.underlying281 Tryz.underlying230 (by kernel_rfl) (by kernel_rfl) h1)
end Go.Proofs.YtbegofbmbcghdaaGreatDoor
