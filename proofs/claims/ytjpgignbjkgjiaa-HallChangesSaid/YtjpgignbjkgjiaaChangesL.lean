/-
  HallChanges answers true for every input, and each argument reads afterwards as it read before.
-/
import Derived.Test.YtjpgignbjkgjiaaL9
import Derived.Test.YtjpgignbjkgjiaaOpen2
set_option linter.unusedVariables false
set_option linter.unusedSimpArgs false
namespace Go.Proofs.Ytjpgignbjkgjiaa
open Go.ChangeShapes Go.WideShapes Go.ChangeAt Go.RowKit Go.Joins
theorem cells3 : Try.prog.cellsOf 3 = 1 := by kernel_rfl
theorem cells45 : Try.prog.cellsOf 45 = 7 := by kernel_rfl
theorem cells62 : Try.prog.cellsOf 62 = 1 := by kernel_rfl
theorem cells82 : Try.prog.cellsOf 82 = 10 := by kernel_rfl
theorem array10 {α : Type} {cs : Array α} (h : cs.size = 10) : ∃ c0 c1 c2 c3 c4 c5 c6 c7 c8 c9, cs = #[c0, c1, c2, c3, c4, c5, c6, c7, c8, c9] := by
  obtain ⟨l⟩ := cs
  match l, h with
  | [c0, c1, c2, c3, c4, c5, c6, c7, c8, c9], _ => exact ⟨c0, c1, c2, c3, c4, c5, c6, c7, c8, c9, rfl⟩
section
variable {H : Type} {enc : TypeId × Value → H} {w : World} {spare : Nat → Bool} {held : Bool}
set_option maxRecDepth 100000 in
theorem open_campv {n : Nat} {c0 c1 c2 c3 c4 c5 c6 : Value} {y : DataW H × List MemPlace} (h : DataW.trod enc Try.prog w 0 spare held n 45 [c0, c1, c2, c3, c4, c5, c6] = some y) :
    ∃ c : Camp, c0 = .int .i64 c.cu ∧ c1 = .int .i64 c.pr ∧ c2 = .int .i64 c.ho ∧ c3 = .int .i64 c.en ∧ c4 = .int .i64 c.ea ∧ c5 = .int .i64 c.la ∧ c6 = .int .i64 c.we := by
  obtain ⟨xs, n', _, _, _, hl, hf⟩ := DataW.trod_struct Try.underlying45 h
  have key : ∀ (j : Nat) (v : Value) (f : Field), (match Try.prog.underlying 45 with | some (.struct fs) => fs[j]? | _ => none) = some f → f.type = 3 → ([c0, c1, c2, c3, c4, c5, c6].drop f.offset).take 1 = [v] → ∃ k, v = .int .i64 k := by
    intro j v f hj ht hd
    rw [Try.underlying45] at hj
    have h1 := hf j f hj
    rw [ht, cells3, hd] at h1
    have hjl := (Array.getElem?_eq_some_iff.1 hj).1
    rw [List.getElem?_eq_getElem (by rw [hl]; exact hjl)] at h1
    obtain ⟨k, e, _, _⟩ := DataW.trod_int Try.underlying3 h1
    simp only [List.cons.injEq, and_true] at e
    exact ⟨k, e⟩
  have e0 := Try.underlying45
  obtain ⟨k0, q0⟩ := key 0 c0 _ (by rw [e0]; rfl) rfl rfl
  obtain ⟨k1, q1⟩ := key 1 c1 _ (by rw [e0]; rfl) rfl rfl
  obtain ⟨k2, q2⟩ := key 2 c2 _ (by rw [e0]; rfl) rfl rfl
  obtain ⟨k3, q3⟩ := key 3 c3 _ (by rw [e0]; rfl) rfl rfl
  obtain ⟨k4, q4⟩ := key 4 c4 _ (by rw [e0]; rfl) rfl rfl
  obtain ⟨k5, q5⟩ := key 5 c5 _ (by rw [e0]; rfl) rfl rfl
  obtain ⟨k6, q6⟩ := key 6 c6 _ (by rw [e0]; rfl) rfl rfl
  exact ⟨⟨k0, k1, k2, k3, k4, k5, k6⟩, q0, q1, q2, q3, q4, q5, q6⟩
end
set_option maxRecDepth 100000 in
theorem changes_lifted (os : Os) (started : os.Started) (H : Type) (enc : TypeId × Value → H) :
    ReturnsInHanded {} Try.checked os 9 .any (Rows.hallChangesSpec.pre6 enc Try.prog Try.f9 Rows.hallChangesRow.domain false) (Rows.hallChangesSpec.post enc Try.prog Try.f9 false true false false) := by
  refine returnsInHanded_of_change_sized (C := Try.checked) Try.own started (by kernel_rfl) Try.func9
    (ChangeSpec.witness6 (enc := enc) (C := Try.checked) false ⟨#[], #[.agg #[.int .i64 0, .int .i64 0, .slice none 0 0, .slice none 0 0], .slice none 0 0, .agg #[.slice none 0 0, .int .i64 0, .slice none 0 0, .int .i64 0, .int .i64 0, .int .i64 0, .int .i64 0, .int .i64 0, .int .i64 0, .int .i64 0]], []⟩ 8 (by kernel_rfl) (by kernel_rfl) (by kernel_rfl) (by kernel_rfl)) ?_
  intro W base args ds gs before hval0 hW hcnd hsz _
  have hval : ∀ (j : Nat) t v, Try.f9.params[j]? = some t → args[j]? = some v → Value.okWide Try.prog W .any base t v := hval0
  have hW' := hW
  obtain ⟨p, q, hA0, hV, rfl, hfz, hnd⟩ := hW
  have hA : DataW.TrodAll enc Try.prog W 0 (fun _ => true) true Try.f9.params.toList args.toList ds p := hA0
  have hA1 := hA
  have hszp : (DataW.weightsEach Try.prog (Try.f9.params.toList ++ Rows.hallChangesSpec.plain.varTypes Try.prog) (ds ++ gs)).all (· ≤ reachBytes) = true := hsz
  rw [Try.params9] at hA hval hszp
  obtain ⟨v0, v1, v2, d0, d1, d2, p0, p1, p2, rfl, rfl, rfl, h0, h1, h2⟩ := trodAll_three hA
  obtain ⟨rfl, rfl⟩ := trodVars_none hV
  obtain ⟨ha, x, rfl, hh, -, -⟩ := open_hall (hval 0 24 v0 rfl rfl) h0
  obtain ⟨a1, l1, k1, e1⟩ := okWide_slice Try.underlying25 (hval 1 25 v1 rfl rfl)
  obtain ⟨la, l, lc, hv1, hl, -⟩ := open_camps (field_of_Trod h1 (by rw [e1]; rfl))
  subst hv1
  obtain ⟨cs, rfl, hcsz⟩ := okWide_struct Try.underlying82 (hval 2 82 v2 rfl rfl)
  obtain ⟨c0, c1, c2, c3, c4, c5, c6, c7, c8, c9, rfl⟩ := array10 (hcsz.trans cells82)
  obtain ⟨fuel, hf⟩ := h2
  obtain ⟨y0, y1, y2, y3, n, hx, _, g0, g1, g2, g3⟩ := trod_struct4 Try.underlying82 hf
  rw [cells22] at g0
  rw [cells3] at g1
  rw [cells62] at g2
  rw [cells45] at g3
  have hs2 : ∀ m ∈ y2.1.weights Try.prog 62, m ≤ reachBytes := fun m hm => by
    have := List.all_eq_true.1 hszp m (DataW.weights_mem_each (j := 2) (t := 82) (d := d2) rfl rfl m (by
      simp only [Prod.mk.injEq] at hx
      rw [hx.1]
      simp only [DataW.weights, Try.underlying82, List.map_cons, List.map_nil, DataW.weightsEach, List.mem_append]
      exact .inr (.inr (.inl hm))))
    simpa using this
  obtain ⟨pa, pl, pc, e0, hp, -⟩ := open_list g0
  obtain ⟨now, e1, _, _⟩ := DataW.trod_int Try.underlying3 g1
  obtain ⟨qa, P, qc, e2, hP, hPb⟩ := open_plans g2 hs2
  obtain ⟨c, rfl, rfl, rfl, rfl, rfl, rfl, rfl⟩ := open_campv g3
  have e1' : [c1] = [Value.int .i64 now] := e1
  obtain rfl : c1 = .int .i64 now := by simpa using e1'
  subst e0 e2
  clear hA0 hval0 hsz hszp
  simp only [List.append_nil] at hW'
  refine (changes_any ha x l la lc pl pa pl.length pc now P qa qc c W hh hl hp rfl hP hPb).mono fun e W' he => ?_
  exact law_post hW' hA1 (by kernel_rfl) rfl rfl rfl rfl (by kernel_rfl) he
theorem hallChanges_holds : Rows.HallChangesSaid :=
  OpenClaim.holds_of_wide 9 Try.f9 rfl rfl rfl rfl rfl rfl rfl ⟨rfl, rfl, rfl, rfl, rfl⟩ rfl rfl rfl rfl rfl (by kernel_rfl) Try.func9 (by kernel_rfl)
    (of_decide_eq_true (by kernel_rfl)) (by unfold Func.isWrapper; first | (rw [if_pos (by decide +kernel)]; kernel_rfl) | (rw [if_neg (by decide +kernel)]; exact ⟨rfl, rfl⟩))
    (fun os started H enc _ => changes_lifted os started H enc)
end Go.Proofs.Ytjpgignbjkgjiaa
