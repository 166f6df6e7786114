/-
  A log opened.
-/
import Derived.Test.YtplbofhgmflnlaaGreatON1
import Derived.Test.YtplbofhgmflnlaaGreatOD
set_option linter.unusedVariables false
set_option linter.unusedSimpArgs false
namespace Go.Proofs.YtplbofhgmflnlaaGreat
open Go.ChangeShapes Go.WideShapes Go.ChangeAt Go.RowKit Go.Deep Go.WideElems Go.Joins
section
variable {H : Type} {enc : TypeId × Value → H} {w : World} {spare : Nat → Bool} {held : Bool}
theorem open_ops {n : Nat} {v : Value} {y : DataW H × List MemPlace} (h : DataW.trod enc Tryz.prog w 0 spare held n 92 [v] = some y) : ∃ a xs c, v = .slice a (List.length xs) c ∧ RowAt 3 opC w a xs ∧ (∀ x ∈ xs, x.rs.size ≤ maxLen) ∧ xs.length ≤ maxLen :=
  open_rowF opC opC_len (by omega) ⟨0, 0, ⟨#[]⟩⟩ Tryz.underlying92 Tryz.underlying105 (by kernel_rfl) (by kernel_rfl) rfl (fun x => x.rs.size ≤ maxLen) (fun g hg => by
    obtain ⟨u0, n0, y0, e0, t0⟩ := hg 0 _ rfl
    obtain ⟨u1, n1, y1, e1, t1⟩ := hg 1 _ rfl
    obtain ⟨u2, n2, y2, e2, t2⟩ := hg 2 _ rfl
    obtain ⟨z0, rfl, -⟩ := open_u Tryz.underlying3 t0
    obtain ⟨z1, rfl, -⟩ := open_u Tryz.underlying3 t1
    obtain ⟨s, rfl, hs⟩ := open_str Tryz.underlying9 t2
    refine ⟨⟨z0, z1, s⟩, fun j hj => ?_, hs⟩
    match j, hj with
    | 0, _ => exact e0
    | 1, _ => exact e1
    | 2, _ => exact e2) h
set_option maxRecDepth 100000 in
theorem open_log {b0 : Nat} {v : Value} {d : DataW H} {p : List MemPlace} (hv : Value.okWide Tryz.prog w .any b0 94 v) (h : DataW.Trod enc Tryz.prog w 0 spare held 94 v d p) :
    ∃ P a ss sc sd oa os oc, v = logV P a ss.length sc ((sd : Nat) : Int) oa (List.length os) oc ∧ PlanAt w P ∧ (∀ i, i < P.fo.length → (gth P.fo i).xs.length ≤ maxLen) ∧ SetsAt w a ss ∧ (∀ i, i < ss.length → (eth ss i).lv.xs.length ≤ maxLen) ∧ ss.length ≤ maxLen ∧ ss.length ≤ sc ∧ sd < 18446744073709551616 ∧
      RowAt 3 opC w oa os ∧ (∀ x ∈ os, x.rs.size ≤ maxLen) := by
  obtain ⟨cs, rfl, hsz⟩ := okWide_struct Tryz.underlying94 hv
  obtain ⟨fuel, hf⟩ := h
  obtain ⟨ys, n, hn, hy, hlen, hyl, hf⟩ := DataW.trod_struct Tryz.underlying94 hf
  have hs5 : cs.size = 5 := hsz.trans (by kernel_rfl)
  obtain ⟨u0, u1, u2, u3, u4, rfl⟩ : ∃ u0 u1 u2 u3 u4, cs = #[u0, u1, u2, u3, u4] := by
    obtain ⟨l⟩ := cs
    match l, hs5 with
    | [u0, u1, u2, u3, u4], _ => exact ⟨_, _, _, _, _, rfl⟩
  have e25 : Tryz.prog.cellsOf 25 = 2 := by kernel_rfl
  have e26 : Tryz.prog.cellsOf 26 = 1 := by kernel_rfl
  have e40 : Tryz.prog.cellsOf 40 = 1 := by kernel_rfl
  have e92 : Tryz.prog.cellsOf 92 = 1 := by kernel_rfl
  have e22 : Tryz.prog.cellsOf 22 = 1 := by kernel_rfl
  have e23 : Tryz.prog.cellsOf 23 = 1 := by kernel_rfl
  have hyl4 : ys.length = 4 := hyl
  have hsome : ∀ i, i < 4 → ∃ z, ys[i]? = some z := fun i hi => ⟨ys[i], List.getElem?_eq_getElem (by omega)⟩
  have f0 := hf 0 _ rfl
  have f1 := hf 1 _ rfl
  have f2 := hf 2 _ rfl
  have f3 := hf 3 _ rfl
  obtain ⟨y0, hy0⟩ := hsome 0 (by omega)
  obtain ⟨y1, hy1⟩ := hsome 1 (by omega)
  obtain ⟨y2, hy2⟩ := hsome 2 (by omega)
  obtain ⟨y3, hy3⟩ := hsome 3 (by omega)
  rw [hy0] at f0; rw [hy1] at f1; rw [hy2] at f2; rw [hy3] at f3
  have g0 : DataW.trod enc Tryz.prog w 0 spare held n 25 (List.take (Tryz.prog.cellsOf 25) (List.drop 0 [u0, u1, u2, u3, u4])) = some y0 := f0
  rw [e25] at g0
  have g0 : DataW.trod enc Tryz.prog w 0 spare held n 25 [u0, u1] = some y0 := g0
  have g1 : DataW.trod enc Tryz.prog w 0 spare held n 26 (List.take (Tryz.prog.cellsOf 26) (List.drop 2 [u0, u1, u2, u3, u4])) = some y1 := f1
  rw [e26] at g1
  have g1 : DataW.trod enc Tryz.prog w 0 spare held n 26 [u2] = some y1 := g1
  have g2 : DataW.trod enc Tryz.prog w 0 spare held n 40 (List.take (Tryz.prog.cellsOf 40) (List.drop 3 [u0, u1, u2, u3, u4])) = some y2 := f2
  rw [e40] at g2
  have g2 : DataW.trod enc Tryz.prog w 0 spare held n 40 [u3] = some y2 := g2
  have g3 : DataW.trod enc Tryz.prog w 0 spare held n 92 (List.take (Tryz.prog.cellsOf 92) (List.drop 4 [u0, u1, u2, u3, u4])) = some y3 := f3
  rw [e92] at g3
  have g3 : DataW.trod enc Tryz.prog w 0 spare held n 92 [u4] = some y3 := g3
  obtain ⟨xs, n', hn', hy', hlen', hxl, hf'⟩ := DataW.trod_struct Tryz.underlying25 g0
  have hxl2 : xs.length = 2 := hxl
  have p0 := hf' 0 _ rfl
  have p1 := hf' 1 _ rfl
  rw [List.getElem?_eq_getElem (by omega)] at p0 p1
  have r0 : DataW.trod enc Tryz.prog w 0 spare held n' 22 (List.take (Tryz.prog.cellsOf 22) (List.drop 0 [u0, u1])) = some _ := p0
  rw [e22] at r0
  have r0 : DataW.trod enc Tryz.prog w 0 spare held n' 22 [u0] = some _ := r0
  have r1 : DataW.trod enc Tryz.prog w 0 spare held n' 23 (List.take (Tryz.prog.cellsOf 23) (List.drop 1 [u0, u1])) = some _ := p1
  rw [e23] at r1
  have r1 : DataW.trod enc Tryz.prog w 0 spare held n' 23 [u1] = some _ := r1
  obtain ⟨fa, fs, fc, rfl, hfs, hfl⟩ := open_facs r0
  obtain ⟨ga, fo, gc, rfl, hfo, hq, hgl⟩ := open_grps r1
  obtain ⟨a, ss, sc, rfl, hS, hS1, hS2⟩ := open_sets g1
  have hcap := slice_cap Tryz.underlying26 g1
  obtain ⟨z, rfl, hz⟩ := open_u Tryz.underlying40 g2
  obtain ⟨sd, rfl, hsd⟩ := wf_u64 hz
  obtain ⟨oa, os, oc, rfl, ho1, ho2, ho3⟩ := open_ops g3
  refine ⟨⟨fs, fa, fc, fo, ga, gc⟩, a, ss, sc, sd, oa, os, oc, rfl, ⟨hfs, hfo, fun i hi => ?_⟩, fun i hi => ?_, hS, hS1, hS2, hcap, hsd, ho1, ho2⟩
  · exact (hq _ (by rw [gth_eq _ _ hi]; exact List.getElem_mem hi)).1
  · exact (hq _ (by rw [gth_eq _ _ hi]; exact List.getElem_mem hi)).2
end
end Go.Proofs.YtplbofhgmflnlaaGreat
