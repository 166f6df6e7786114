/-
  Walks of the reference: Versions.
-/
import Derived.Test.YtlahejakcgoheaaRE
set_option linter.unusedVariables false
set_option linter.unusedSimpArgs false
namespace Go.Proofs.Ytlahejakcgoheaa
open Go.RowKit
def selV (nm : ByteArray) (num : Int) (l : Lk) : Bool := (((l.op : Int) == 3) || ((l.op : Int) == 4)) && (decide (l.cu = nm) && (l.nu == num))
def versL (nm : ByteArray) (num : Int) (ls : List Lk) : List Lk := ls.filter (selV nm num)
theorem versL_snoc (nm : ByteArray) (num : Int) (ls : List Lk) (l : Lk) : versL nm num (ls ++ [l]) = if ((((l.op : Int) == 3) || ((l.op : Int) == 4)) && (decide (l.cu = nm) && (l.nu == num))) = true then versL nm num ls ++ [l] else versL nm num ls := by
  unfold versL; rw [List.filter_append]
  by_cases h : selV nm num l = true
  · rw [if_pos (by exact h), List.filter_cons_of_pos h]; rfl
  · rw [if_neg (by exact h), List.filter_cons_of_neg h]; simp
/-- A row of links of one's own, made since w0; the Bodies lie in the memory of wb, which is older. -/
structure RowLs (wb w0 w : World) (v : Value) (xs : List Lv) : Prop where
  row : OwnL w w0.heap.size v xs
  bod : ∀ x ∈ xs, Byts wb x.ba x.l.bo ∧ LkOk x.l
  base : Ext wb w0
  old : Ext w0 w
theorem RowLs.ext {wb w0 w w' : World} {v : Value} {xs : List Lv} (h : RowLs wb w0 w v xs) (e : Ext w w') : RowLs wb w0 w' v xs := ⟨h.row.ext e, h.bod, h.base, h.old.trans e⟩
theorem RowLs.links {wb w0 w : World} {a : Option Addr} {n c : Nat} {xs : List Lv} (h : RowLs wb w0 w (.slice a n c) xs) : Links w a xs ∧ LksOk xs := by
  refine ⟨⟨?_, fun i hi => ?_⟩, fun i hi => ?_⟩
  · cases xs with
    | nil => exact .inl rfl
    | cons x0 xs0 =>
      obtain ⟨g, ha, -, -, -⟩ := OwnF.cell lcl_len h.row 0 (by simp)
      refine .inr ⟨g, 0, ha, fun i hi => ?_⟩
      obtain ⟨g', ha', -, -, hc⟩ := OwnF.cell lcl_len h.row i hi
      rw [ha] at ha'
      simp only [Option.some.injEq, Addr.mk.injEq, and_true] at ha'
      subst ha'
      rw [lth_eq _ _ hi, Nat.zero_add]
      exact ⟨hc 0 (by omega), hc 1 (by omega), hc 2 (by omega), hc 3 (by omega), hc 4 (by omega), hc 5 (by omega), hc 6 (by omega), hc 7 (by omega), hc 8 (by omega), hc 9 (by omega)⟩
  · rw [lth_eq _ _ hi]; exact (h.bod _ (List.getElem_mem hi)).1.ext (h.base.trans h.old)
  · rw [lth_eq _ _ hi]; exact (h.bod _ (List.getElem_mem hi)).2
theorem RowLs.slice {wb w0 w : World} {v : Value} {xs : List Lv} (h : RowLs wb w0 w v xs) : ∃ a c, v = .slice a xs.length c := by
  rcases h.row.2 with ⟨hv, hn⟩ | ⟨g, cap, cur, hv, -⟩
  · exact ⟨none, 0, by rw [hv, hn]⟩
  · exact ⟨_, _, hv⟩
theorem app_rowl (ty : TypeId) (wb w0 w : World) (v : Value) (xs : List Lv) (h : RowLs wb w0 w v xs) (x : Lv) (hx : Byts wb x.ba x.l.bo) (ho : LkOk x.l) (hn : xs.length ≤ 1000000) :
    ∃ v' w', (Builtin.append_ #[38, 38] ty #[v, .slice (some ⟨w.heap.size, 0, none⟩) 1 1]).run Try.prog (w.alloc (.cells (lcells x) 59)) = .ok v' w' ∧ RowLs wb w0 w' v' (xs ++ [x]) := by
  obtain ⟨i0, hi, hz0, hz1, hz2⟩ := info_parts info59
  have e0 := (Ext.refl w).alloc (.cells (lcells x) 59)
  have hs := h.old.size
  obtain ⟨v', w', r1, r2, r3, r4⟩ := app_struct 38 ty 59 lcl lcl_len lcl_one (by omega) Try.underlying38 hi hz0 hz1 hz2 rfl (by omega) (w.alloc (.cells (lcells x) 59)) w0.heap.size _ xs (h.row.ext e0) x w.heap.size (by rw [heap_new]; rfl) hn (by rw [heap_size]; omega)
  have e1 : Ext w0 w' := grown_ext (h.old.trans e0) r3 (fun k hk => (World.ownsRow.lt h.row k hk).1)
  refine ⟨v', w', r1, ⟨r2, fun y hy => ?_, h.base, e1⟩⟩
  rcases List.mem_append.1 hy with hy | hy
  · exact h.bod y hy
  · simp at hy; subst hy; exact ⟨hx, ho⟩
theorem ownL_mono {w : World} {B B' : Nat} {v : Value} {xs : List Lv} (h : OwnL w B v xs) (hb : B' ≤ B) : OwnL w B' v xs := by
  obtain ⟨h1, h2⟩ := h
  refine ⟨h1, ?_⟩
  rcases h2 with h2 | ⟨g, cap, cur, hv, hg, r⟩
  · exact .inl h2
  · exact .inr ⟨g, cap, cur, hv, Nat.le_trans hb hg, r⟩
theorem RowLs.down {wb w0 w : World} {v : Value} {xs : List Lv} (h : RowLs wb w0 w v xs) : RowLs wb wb w v xs := ⟨ownL_mono h.row h.base.size, h.bod, Ext.refl _, h.base.trans h.old⟩
set_option maxRecDepth 100000 in
set_option maxHeartbeats 4000000 in
theorem rvers_any (N : Bool) (a : Option Addr) (xs : List Lv) (c : Nat) (nm : ByteArray) (num : Int) (w : World) (h : Links w a xs) (ho : LksOk xs) (hl : xs.length ≤ 1000000) :
    Calls Try.prog 82 #[rv N a xs.length c, .string nm, .int .i64 num] w (fun e w' => ∃ la lc ys, e = .returned (.slice la ys.length lc) ∧ RowLs w w w' (.slice la ys.length lc) ys ∧ lks ys = versL nm num (lks xs)) := by
  obtain ⟨n, hn⟩ : ∃ n, n = xs.length := ⟨_, rfl⟩
  have HX := Lib.hid h; have HN := Lib.hid hn; have HO := Lib.hid ho
  rw [← hn] at hl ⊢
  clear h hn ho
  go_enter Try.func82, Try.ntmps82
  go_upto_region 1 with fail
  generalize hw1 : World.alloc _ _ = w1
  obtain ⟨he, o1, -⟩ := alloc1 hw1
  obtain ⟨b0, b1⟩ := obj_cells2 o1
  clear hw1 o1 b0
  have HB1 := Lib.hid b1; have HE := Lib.hid he
  clear b1
  go_upto_region 2 with fail
  generalize hw2 : World.alloc _ _ = w2
  obtain ⟨he2, o2, -⟩ := alloc1 hw2
  have hst : RowLs w w1 w2 (.slice (some ⟨w1.heap.size, 0, none⟩) 0 0) [] := ⟨by
    subst hw2
    exact own_empty w1 59 10, by simp, he, he2⟩
  have HST := Lib.hid hst; have HE2 := Lib.hid he2
  clear hw2 o2 hst he2
  go_wp2_with (fail)
  go_loopw [7, 8] (fun out i wr => ∃ k : Nat, k ≤ n ∧ i = .int .i64 k ∧ Hid (∃ ys, RowLs w w1 wr out ys ∧ lks ys = versL nm num ((lks xs).take k))) (fun _ i _ => n - (intOf i).toNat)
  case atStart => exact ⟨0, Nat.zero_le _, rfl, [], HST.out, rfl⟩
  case round =>
    obtain ⟨k, hk, rfl, hys⟩ := hrel
    obtain ⟨ys, hrow, hlk⟩ := hys.out
    have her : Hid (Ext w1 wr) := hrow.old
    have HROW := Lib.hid hrow; have HLK := Lib.hid hlk
    have E0 := Ext.refl wr
    have b1 := fun W (e : Ext wr W) => HB1.out W (her.out.trans e)
    clear hrow hlk hys
    by_cases hlt : k < n
    · have hlx : k < xs.length := by rw [← HN.out]; exact hlt
      have hbx := HX.out.2 k hlx
      have hox := HO.out k hlx
      have hts := take_snoc xs k hlx
      have hds := versL_snoc nm num ((lks xs).take k) (lth xs k).l
      rw [← hts] at hds
      obtain ⟨b, o, rfl, hc⟩ := HX.out.at k hlx
      have hcl := hc wr (HE.out.trans her.out)
      obtain ⟨x, hx⟩ : ∃ x, x = lth xs k := ⟨_, rfl⟩
      rw [← hx] at hds hcl hbx hox
      have hys1 : ys.length ≤ k := by
        rw [← lks_len, HLK.out]; unfold versL
        exact Nat.le_trans (List.length_filter_le _ _) (by rw [List.length_take]; omega)
      obtain ⟨c0, c1, c2, c3, c4, c5, c6, c7, c8, c9⟩ := hcl
      have HDS := Lib.hid hds; have HBX := Lib.hid hbx; have HOX := Lib.hid hox
      have hi0 : (0 : Int) ≤ (k : Int) := by omega
      have hi1 : (k : Int) < (n : Int) := by omega
      clear hc hts hds hx hbx hox
      go_upto_region 6 with fail
      clear c0 c1 c2 c3 c4 c5 c6 c7 c8 c9 b1 E0
      generalize hwa : World.alloc _ _ = wa
      obtain ⟨hea, oa, hsa⟩ := alloc1 hwa
      obtain ⟨d0, d1, d2, d3, d4, d5, d6, d7, d8, d9⟩ := obj_cells10 oa
      have Ea := Ext.refl wa
      have HEA := Lib.hid hea
      have hrow2 := HROW.out.ext hea
      have hap := app_rowl 38 w w1 wa u7 ys hrow2 x HBX.out HOX.out (by omega)
      have HAPP := Lib.hid hap; have HR2 := Lib.hid hrow2
      clear hwa oa hsa hea hap hrow2
      cases T1 : ((x.l.op : Int) == 3) <;> cases T2 : ((x.l.op : Int) == 4) <;> cases T3 : decide (x.l.cu = nm) <;> cases T4 : (x.l.nu == num)
      all_goals
        have hv := HDS.out
        rw [T1, T2, T3, T4] at hv
        simp only [Bool.or_true, Bool.or_false, Bool.true_or, Bool.and_true, Bool.and_false, Bool.true_and, Bool.false_and, if_true, if_false, reduceCtorEq] at hv
        have HV := Lib.hid hv
        have s2 := str_beq x.l.cu nm
        rw [T3] at s2
        clear hv
        go_wp2_with (first | (at_builtin; refine wpList_app _ rfl _ _ 38 rfl _ HAPP.out ?_; clear HAPP; rintro v' w5 hro; have HRO := Lib.hid hro; clear hro) | fail)
        first
        | exact ⟨⟨k + 1, by omega, by go_num, ys, HR2.out, by rw [HV.out]; exact HLK.out⟩, by simp [intOf]; omega⟩
        | exact ⟨⟨k + 1, by omega, by go_num, ys ++ [x], HRO.out, by rw [HV.out, ← HLK.out]; simp [lks]⟩, by simp [intOf]; omega⟩
    · obtain rfl : k = n := by omega
      have hend : Hid ((lks xs).take k = lks xs) := by rw [Hid, List.take_of_length_le (by rw [lks_len, HN.out]; exact Nat.le_refl _)]
      obtain ⟨a5, c5, rfl⟩ := HROW.out.slice
      go_wp2_with (fail)
      go_ret
      exact ⟨a5, c5, ys, rfl, HROW.out.down, by rw [HLK.out, hend.out]⟩
end Go.Proofs.Ytlahejakcgoheaa
