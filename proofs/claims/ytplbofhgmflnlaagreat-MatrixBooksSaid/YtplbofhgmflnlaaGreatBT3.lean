/-
  Texts merged: BR4, BR5, BR6.
-/
import Derived.Test.YtplbofhgmflnlaaGreatBS3
section
/-
  Rows of states and of reasons; what the reference's 'with' has made by now.
-/
set_option linter.unusedVariables false
set_option linter.unusedSimpArgs false
namespace Go.Proofs.YtplbofhgmflnlaaGreat
open Go.RowKit
theorem info115 : (Tryz.prog.info? 115).map (fun i => (i.zero, i.size, i.bytes)) = some (some (.int .u8 0), 1, 1) := by kernel_rfl
theorem info9 : (Tryz.prog.info? 9).map (fun i => (i.zero, i.size, i.bytes)) = some (some (.string ⟨#[]⟩), 1, 16) := by kernel_rfl
theorem stC_one (p : Pt) : ∀ u ∈ stC p, u.oneCell' = true := by
  intro u hu
  simp only [stC, List.mem_cons, List.mem_nil_iff, or_false] at hu
  subst hu; rfl
theorem rsC_one (p : Pt) : ∀ u ∈ rsC p, u.oneCell' = true := by
  intro u hu
  simp only [rsC, List.mem_cons, List.mem_nil_iff, or_false] at hu
  subst hu; rfl
abbrev rwSt (v : Value) (pts : List Pt) : Rw := ⟨115, 1, v, pts.length, rowF stC pts⟩
abbrev rwRs (v : Value) (pts : List Pt) : Rw := ⟨9, 1, v, pts.length, rowF rsC pts⟩
def bxC (q : Value × Value × Value × Value) : List Value := [q.1, q.2.1, q.2.2.1, q.2.2.2]
theorem bxC_len (q : Value × Value × Value × Value) : (bxC q).length = 4 := rfl
abbrev rwX (b : Nat) (B O S R : Value) : Rw := ⟨102, 4, .slice (some ⟨b, 0, none⟩) 1 1, 1, rowF bxC [(B, O, S, R)]⟩
theorem app_stL (w : World) (B : Nat) (ty : TypeId) (v : Value) (xs ys : List Pt) (a : Addr) (c : Nat) (hv : OwnF 115 1 stC w B v xs) (hx : RowAt 1 stC w (some a) ys) (hn : xs.length + ys.length ≤ 1000000) (hB : B ≤ w.heap.size) :
    ∃ v' w', (Builtin.append_ #[99, 99] ty #[v, .slice (some a) ys.length c]).run Tryz.prog w = .ok v' w' ∧ OwnF 115 1 stC w' B v' (xs ++ ys) ∧ w.grownBy w' v.ownBlock ∧ (v'.ownBlock = v.ownBlock ∨ v'.ownBlock = some w.heap.size) := by
  obtain ⟨i0, hi, hz0, hz1, hz2⟩ := info_parts info115
  obtain ⟨v', w', r1, r2, r3, -, r5⟩ := run_append_own_at (P := Tryz.prog) w B 99 ty 115 i0 _ 1 1 Tryz.underlying99 hi hz0 hz1 hz2 rfl (by omega) v xs.length (rowF stC xs) hv a ys.length c (rowF stC ys) (rowF_len stC_len ys) (by
    rcases hx.src stC_len with h | ⟨ad, h, hc⟩
    · intro j u hj; rw [h] at hj; simp at hj
    · cases h; exact hc) (rowF_one stC_one ys) (by unfold maxLen; omega) (by omega) hB
  refine ⟨v', w', r1, ?_, r3, r5⟩
  unfold OwnF
  rw [List.length_append, rowF_append]
  exact r2
theorem app_rsL (w : World) (B : Nat) (ty : TypeId) (v : Value) (xs ys : List Pt) (a : Addr) (c : Nat) (hv : OwnF 9 1 rsC w B v xs) (hx : RowAt 1 rsC w (some a) ys) (hn : xs.length + ys.length ≤ 1000000) (hB : B ≤ w.heap.size) :
    ∃ v' w', (Builtin.append_ #[100, 100] ty #[v, .slice (some a) ys.length c]).run Tryz.prog w = .ok v' w' ∧ OwnF 9 1 rsC w' B v' (xs ++ ys) ∧ w.grownBy w' v.ownBlock ∧ (v'.ownBlock = v.ownBlock ∨ v'.ownBlock = some w.heap.size) := by
  obtain ⟨i0, hi, hz0, hz1, hz2⟩ := info_parts info9
  obtain ⟨v', w', r1, r2, r3, -, r5⟩ := run_append_own_at (P := Tryz.prog) w B 100 ty 9 i0 _ 1 16 Tryz.underlying100 hi hz0 hz1 hz2 rfl (by omega) v xs.length (rowF rsC xs) hv a ys.length c (rowF rsC ys) (rowF_len rsC_len ys) (by
    rcases hx.src rsC_len with h | ⟨ad, h, hc⟩
    · intro j u hj; rw [h] at hj; simp at hj
    · cases h; exact hc) (rowF_one rsC_one ys) (by unfold maxLen; omega) (by omega) hB
  refine ⟨v', w', r1, ?_, r3, r5⟩
  unfold OwnF
  rw [List.length_append, rowF_append]
  exact r2
theorem bx_cells {W : World} {B b : Nat} {v0 v1 v2 v3 : Value} (h : (rwX b v0 v1 v2 v3).at W B) : W.cell? ⟨b, 0, none⟩ = some v0 ∧ W.cell? ⟨b, 1, none⟩ = some v1 ∧ W.cell? ⟨b, 2, none⟩ = some v2 ∧ W.cell? ⟨b, 3, none⟩ = some v3 ∧ (∀ i, W.frozen? ⟨b, i, none⟩ = false) ∧ B ≤ b := by
  have h0 : OwnF 102 4 bxC W B (.slice (some ⟨b, 0, none⟩) 1 1) [(v0, v1, v2, v3)] := h
  obtain ⟨g, hg, hB, -, hc⟩ := h0.cell bxC_len 0 (by simp)
  simp only [Option.some.injEq, Addr.mk.injEq, and_true] at hg
  subst hg
  have c0 := hc 0 (by omega)
  have c1 := hc 1 (by omega)
  have c2 := hc 2 (by omega)
  have c3 := hc 3 (by omega)
  exact ⟨by simpa [bxC] using c0, by simpa [bxC] using c1, by simpa [bxC] using c2, by simpa [bxC] using c3, fun i => h0.frozenAt i, hB⟩
theorem bx_set2 {W : World} {B b : Nat} {v0 v1 v2 v3 : Value} (h : (rwX b v0 v1 v2 v3).at W B) (u : Value) : (rwX b v0 v1 u v3).at (W.setCell ⟨b, 2, none⟩ u) B := by
  have h0 : OwnF 102 4 bxC W B (.slice (some ⟨b, 0, none⟩) 1 1) [(v0, v1, v2, v3)] := h
  exact OwnF.setCell1 bxC_len h0 0 (by simp) 2 (by omega) u (v0, v1, u, v3) rfl
theorem bx_set3 {W : World} {B b : Nat} {v0 v1 v2 v3 : Value} (h : (rwX b v0 v1 v2 v3).at W B) (u : Value) : (rwX b v0 v1 v2 u).at (W.setCell ⟨b, 3, none⟩ u) B := by
  have h0 : OwnF 102 4 bxC W B (.slice (some ⟨b, 0, none⟩) 1 1) [(v0, v1, v2, v3)] := h
  exact OwnF.setCell1 bxC_len h0 0 (by simp) 3 (by omega) u (v0, v1, v2, u) rfl
def stP (l0 l3 : Bool) (v0 v3 : Value) (pts : List Pt) : List Rw := if l3 then [rwSt v3 pts] else if l0 then [rwSt v0 []] else []
def rsP (l4 l7 : Bool) (v4 v7 : Value) (pts : List Pt) : List Rw := if l7 then [rwRs v7 pts] else if l4 then [rwRs v4 []] else []
/-- What 'with' has made by now: the book's box, and the two own rows. -/
structure WiJ (w0 wz : World) (tb : Nat) (Bv Ov Sv Rv : Value) (pts : List Pt) (L : List Rw) (l0 l3 l4 l7 l9 l11 : Bool) (v0 v3 v4 v7 : Value) : Prop where
  ext : Ext w0 wz
  rows : RowsAt wz w0.heap.size (rwX tb Bv Ov (if l9 then v3 else Sv) (if l11 then v7 else Rv) :: (stP l0 l3 v0 v3 pts ++ (rsP l4 l7 v4 v7 pts ++ L)))
section
variable {w0 wz : World} {tb : Nat} {Bv Ov Sv Rv : Value} {pts : List Pt} {L : List Rw} {l0 l3 l4 l7 l9 l11 : Bool} {v0 v3 v4 v7 : Value}
theorem WiJ.put0 (h : WiJ w0 wz tb Bv Ov Sv Rv pts L l0 l3 l4 l7 l9 l11 v0 v3 v4 v7) (h0 : l0 = false) (h3 : l3 = false) (h9 : l9 = false) :
    WiJ w0 (wz.alloc (.cells #[] 115)) tb Bv Ov Sv Rv pts L true l3 l4 l7 l9 l11 (.slice (some ⟨wz.heap.size, 0, none⟩) 0 0) v3 v4 v7 := by
  subst h0 h3 h9
  refine ⟨h.ext.alloc _, ?_⟩
  have h1 := h.rows.push (r := rwSt (.slice (some ⟨wz.heap.size, 0, none⟩) 0 0) []) (ownsRow_empty (heap_new _ _) h.ext.size) (fun k hk => heap_old _ _ k hk) (fun k hk => by simp [Value.ownBlock] at hk; omega)
  exact h1.perm (.swap _ _ _)
theorem WiJ.put4 (h : WiJ w0 wz tb Bv Ov Sv Rv pts L l0 l3 l4 l7 l9 l11 v0 v3 v4 v7) (h4 : l4 = false) (h7 : l7 = false) (h11 : l11 = false) :
    WiJ w0 (wz.alloc (.cells #[] 9)) tb Bv Ov Sv Rv pts L l0 l3 true l7 l9 l11 v0 v3 (.slice (some ⟨wz.heap.size, 0, none⟩) 0 0) v7 := by
  subst h4 h7 h11
  refine ⟨h.ext.alloc _, ?_⟩
  have h1 := h.rows.push (r := rwRs (.slice (some ⟨wz.heap.size, 0, none⟩) 0 0) []) (ownsRow_empty (heap_new _ _) h.ext.size) (fun k hk => heap_old _ _ k hk) (fun k hk => by simp [Value.ownBlock] at hk; omega)
  refine h1.perm ?_
  exact (List.perm_middle (a := rwRs (.slice (some ⟨wz.heap.size, 0, none⟩) 0 0) []) (l₁ := rwX tb Bv Ov (if l9 then v3 else Sv) Rv :: stP l0 l3 v0 v3 pts) (l₂ := L)).symm
theorem WiJ.put3 {a : Addr} {c : Nat} (h : WiJ w0 wz tb Bv Ov Sv Rv pts L l0 l3 l4 l7 l9 l11 v0 v3 v4 v7) (h0 : l0 = true) (h3 : l3 = false) (h9 : l9 = false) (hs : RowAt 1 stC w0 (some a) pts) (hn : pts.length ≤ 500000) :
    ∃ v' w', (Builtin.append_ #[99, 99] 99 #[v0, .slice (some a) pts.length c]).run Tryz.prog wz = .ok v' w' ∧ WiJ w0 w' tb Bv Ov Sv Rv pts L l0 true l4 l7 l9 l11 v0 v' v4 v7 := by
  subst h0 h3 h9
  have h1 : RowsAt wz w0.heap.size ([rwX tb Bv Ov Sv (if l11 then v7 else Rv)] ++ rwSt v0 [] :: (rsP l4 l7 v4 v7 pts ++ L)) := h.rows
  have hown : OwnF 115 1 stC wz w0.heap.size v0 [] := h1.mid
  obtain ⟨v', w', r1, r2, r3, r4⟩ := app_stL wz w0.heap.size 99 v0 [] pts a c hown (RowAt.ext stC_len hs h.ext) (by simp; omega) h.ext.size
  rw [List.nil_append] at r2
  exact ⟨v', w', r1, grown_ext h.ext r3 (fun j hj => (hown.lt j hj).1), RowsAt.appMid (r' := rwSt v' pts) h1 r3 r2 r4⟩
theorem WiJ.put7 {a : Addr} {c : Nat} (h : WiJ w0 wz tb Bv Ov Sv Rv pts L l0 l3 l4 l7 l9 l11 v0 v3 v4 v7) (h4 : l4 = true) (h7 : l7 = false) (h11 : l11 = false) (hs : RowAt 1 rsC w0 (some a) pts) (hn : pts.length ≤ 500000) :
    ∃ v' w', (Builtin.append_ #[100, 100] 100 #[v4, .slice (some a) pts.length c]).run Tryz.prog wz = .ok v' w' ∧ WiJ w0 w' tb Bv Ov Sv Rv pts L l0 l3 l4 true l9 l11 v0 v3 v4 v' := by
  subst h4 h7 h11
  have h1 : RowsAt wz w0.heap.size ((rwX tb Bv Ov (if l9 then v3 else Sv) Rv :: stP l0 l3 v0 v3 pts) ++ rwRs v4 [] :: L) := h.rows
  have hown : OwnF 9 1 rsC wz w0.heap.size v4 [] := h1.mid
  obtain ⟨v', w', r1, r2, r3, r4⟩ := app_rsL wz w0.heap.size 100 v4 [] pts a c hown (RowAt.ext rsC_len hs h.ext) (by simp; omega) h.ext.size
  rw [List.nil_append] at r2
  exact ⟨v', w', r1, grown_ext h.ext r3 (fun j hj => (hown.lt j hj).1), RowsAt.appMid (r' := rwRs v' pts) h1 r3 r2 r4⟩
theorem WiJ.box (h : WiJ w0 wz tb Bv Ov Sv Rv pts L l0 l3 l4 l7 l9 l11 v0 v3 v4 v7) : (rwX tb Bv Ov (if l9 then v3 else Sv) (if l11 then v7 else Rv)).at wz w0.heap.size := h.rows.own _ (List.mem_cons_self)
theorem WiJ.put9 (h : WiJ w0 wz tb Bv Ov Sv Rv pts L l0 l3 l4 l7 l9 l11 v0 v3 v4 v7) (h3 : l3 = true) :
    WiJ w0 (wz.setCell ⟨tb, 2, none⟩ v3) tb Bv Ov Sv Rv pts L l0 l3 l4 l7 true l11 v0 v3 v4 v7 := by
  subst h3
  have hb := (bx_cells h.box).2.2.2.2.2
  exact ⟨h.ext.set hb _, h.rows.written (i := 0) (r' := rwX tb Bv Ov v3 (if l11 then v7 else Rv)) rfl ((ExtX.refl tb wz).set 2 v3) rfl rfl (bx_set2 h.box v3)⟩
theorem WiJ.put11 (h : WiJ w0 wz tb Bv Ov Sv Rv pts L l0 l3 l4 l7 l9 l11 v0 v3 v4 v7) (h7 : l7 = true) :
    WiJ w0 (wz.setCell ⟨tb, 3, none⟩ v7) tb Bv Ov Sv Rv pts L l0 l3 l4 l7 l9 true v0 v3 v4 v7 := by
  subst h7
  have hb := (bx_cells h.box).2.2.2.2.2
  exact ⟨h.ext.set hb _, h.rows.written (i := 0) (r' := rwX tb Bv Ov (if l9 then v3 else Sv) v7) rfl ((ExtX.refl tb wz).set 3 v7) rfl rfl (bx_set3 h.box v7)⟩
end
end Go.Proofs.YtplbofhgmflnlaaGreat
end
section
/-
  A region of the reference's 'with': own lists of states and reasons.
-/
set_option linter.unusedVariables false
set_option linter.unusedSimpArgs false
namespace Go.Proofs.YtplbofhgmflnlaaGreat
open Go.RowKit
set_option maxRecDepth 100000 in
set_option maxHeartbeats 4000000 in
theorem wi_law {tb sc rc : Nat} {sa ra : Addr} {Bv Ov : Value} {pts : List Pt} {L : List Rw} {w0 wr : World} (HR0 : Hid (Ext w0 wr ∧ RowsAt wr w0.heap.size (rwX tb Bv Ov (.slice (some sa) pts.length sc) (.slice (some ra) pts.length rc) :: L))) (HST : Hid (RowAt 1 stC w0 (some sa) pts ∧ RowAt 1 rsC w0 (some ra) pts ∧ pts.length ≤ 500000)) {Q : Exit → Act → World → Prop} (aZ : Act) (hsz : aZ.tmps.size = 30) (o4 : aZ.tmps[4]?.getD undef = .pointer (some ⟨tb, 0, none⟩))
    (hend : ∀ (vs : Nat → Value) (w9 : World) (ls9 : Nat → Bool), (∀ j : Nat, j < 12 → ls9 j = true) → (WiJ w0 w9 tb Bv Ov (.slice (some sa) pts.length sc) (.slice (some ra) pts.length rc) pts L (ls9 0) (ls9 3) (ls9 4) (ls9 7) (ls9 9) (ls9 11) (vs 0) (vs 3) (vs 4) (vs 7)) → (True) → (vs 1 = .pointer (some ⟨tb, 2, none⟩)) → (vs 2 = .slice (some sa) pts.length sc) → (True) → (True) → (vs 5 = .pointer (some ⟨tb, 3, none⟩)) → (vs 6 = .slice (some ra) pts.length rc) → (True) → (vs 8 = .pointer (some ⟨tb, 2, none⟩)) → (vs 10 = .pointer (some ⟨tb, 3, none⟩)) → Q .normal ((((((((((aZ.put (some 9) (vs 0)).put (some 10) (vs 1)).put (some 11) (vs 2)).put (some 12) (vs 3)).put (some 13) (vs 4)).put (some 14) (vs 5)).put (some 15) (vs 6)).put (some 16) (vs 7)).put (some 17) (vs 8)).put (some 18) (vs 10)) w9) : (regOf Tryz.f99 1).wp Tryz.prog Q aZ wr := by
  conv => arg 2; whnf
  refine wp_region_said3 (fun i v wz => match i with
    | 0 => True
    | 1 => v = .pointer (some ⟨tb, 2, none⟩)
    | 2 => v = .slice (some sa) pts.length sc
    | 3 => True
    | 4 => True
    | 5 => v = .pointer (some ⟨tb, 3, none⟩)
    | 6 => v = .slice (some ra) pts.length rc
    | 7 => True
    | 8 => v = .pointer (some ⟨tb, 2, none⟩)
    | 9 => True
    | 10 => v = .pointer (some ⟨tb, 3, none⟩)
    | _ => True) (fun ls vs wz => WiJ w0 wz tb Bv Ov (.slice (some sa) pts.length sc) (.slice (some ra) pts.length rc) pts L (ls 0) (ls 3) (ls 4) (ls 7) (ls 9) (ls 11) (vs 0) (vs 3) (vs 4) (vs 7)) (by kernel_rfl) (by kernel_rfl) (by rw [hsz]; kernel_rfl) ?_ ?_ ?_
  · exact ⟨HR0.out.1.drew, HR0.out.2.ext (Ext.refl _).drew⟩
  · refine ⟨?_, ?_, ?_, ?_, ?_, ?_, ?_, ?_, ?_, ?_, ?_, ?_, trivial⟩
    · intro ls vs a w1 hi hJ hold hdep hdon hcl K hK
      have hn3 : ls 3 = false := by
        cases e : ls 3 with
        | false => rfl
        | true =>
          replace e := hcl 3 0 e (by kernel_rfl)
          rw [show ls 0 = false from hi] at e
          cases e
      have hn9 : ls 9 = false := by
        cases e : ls 9 with
        | false => rfl
        | true =>
          replace e := hcl 9 0 e (by kernel_rfl)
          rw [show ls 0 = false from hi] at e
          cases e
      rw [if_pos (by rfl)]
      clear hold hdep hend hdon hcl o4
      have HJ := Lib.hid hJ
      clear hJ
      go_simp
      exact hK _ _ (fun _ _ _ h => h) (HJ.out.put0 hi hn3 hn9) trivial
    · intro ls vs a w1 hi hJ hold hdep hdon hcl K hK
      have q4 : a.tmps[4]?.getD undef = .pointer (some ⟨tb, 0, none⟩) := (hold 4 (by kernel_rfl)).trans o4
      rw [if_pos (by rfl)]
      clear hold hdep hend hdon hcl o4
      have HJ := Lib.hid hJ
      clear hJ
      go_simp
      exact hK _ _ (fun _ _ _ h => h) HJ.out rfl
    · intro ls vs a w1 hi hJ hold hdep hdon hcl K hK
      have q10 : a.tmps[10]?.getD undef = .pointer (some ⟨tb, 2, none⟩) := (hdep 1 10 (by kernel_rfl) (by kernel_rfl)).2.1.trans (hdep 1 10 (by kernel_rfl) (by kernel_rfl)).2.2
      have hn9 : ls 9 = false := by
        cases e : ls 9 with
        | false => rfl
        | true =>
          replace e := hcl 9 2 e (by kernel_rfl)
          rw [show ls 2 = false from hi] at e
          cases e
      rw [if_pos (by rfl)]
      clear hold hdep hend hdon hcl o4
      have HJ := Lib.hid hJ
      clear hJ
      have c7 : w1.cell? ⟨tb, 2, none⟩ = some (.slice (some sa) pts.length sc) := by
        have := (bx_cells HJ.out.box).2.2.1
        simpa [hn9] using this
      go_simp
      exact hK _ _ (fun _ _ _ h => h) HJ.out rfl
    · intro ls vs a w1 hi hJ hold hdep hdon hcl K hK
      obtain ⟨hl0, q9, p9⟩ := hdep 0 9 (by kernel_rfl) (by kernel_rfl)
      have q11 : a.tmps[11]?.getD undef = .slice (some sa) pts.length sc := (hdep 2 11 (by kernel_rfl) (by kernel_rfl)).2.1.trans (hdep 2 11 (by kernel_rfl) (by kernel_rfl)).2.2
      have hn9 : ls 9 = false := by
        cases e : ls 9 with
        | false => rfl
        | true =>
          replace e := hcl 9 3 e (by kernel_rfl)
          rw [show ls 3 = false from hi] at e
          cases e
      have hl0 := hdon 0 (by kernel_rfl)
      have hl2 := hdon 2 (by kernel_rfl)
      clear hold hdep hend hdon o4
      have HJ := Lib.hid hJ
      clear hJ
      obtain ⟨v', w', r1, r2⟩ := HJ.out.put3 (c := sc) hl0 hi hn9 HST.out.1 HST.out.2.2
      refine step_app (by rfl) (.tmp 9) (.tmp 11) 99 (by rfl) _ _ (by simpa [Act.eval, Array.getD_eq_getD_getElem?] using q9) (by simpa [Act.eval, Array.getD_eq_getD_getElem?] using q11) (fun v3 w3 => v3 = v' ∧ w3 = w') ⟨_, _, r1, rfl, rfl⟩ ?_
      rintro v3 w3 ⟨rfl, rfl⟩
      exact hK _ _ (fun _ _ _ h => h) r2 trivial
    · intro ls vs a w1 hi hJ hold hdep hdon hcl K hK
      have hn7 : ls 7 = false := by
        cases e : ls 7 with
        | false => rfl
        | true =>
          replace e := hcl 7 4 e (by kernel_rfl)
          rw [show ls 4 = false from hi] at e
          cases e
      have hn11 : ls 11 = false := by
        cases e : ls 11 with
        | false => rfl
        | true =>
          replace e := hcl 11 4 e (by kernel_rfl)
          rw [show ls 4 = false from hi] at e
          cases e
      rw [if_pos (by rfl)]
      clear hold hdep hend hdon hcl o4
      have HJ := Lib.hid hJ
      clear hJ
      go_simp
      exact hK _ _ (fun _ _ _ h => h) (HJ.out.put4 hi hn7 hn11) trivial
    · intro ls vs a w1 hi hJ hold hdep hdon hcl K hK
      have q4 : a.tmps[4]?.getD undef = .pointer (some ⟨tb, 0, none⟩) := (hold 4 (by kernel_rfl)).trans o4
      rw [if_pos (by rfl)]
      clear hold hdep hend hdon hcl o4
      have HJ := Lib.hid hJ
      clear hJ
      go_simp
      exact hK _ _ (fun _ _ _ h => h) HJ.out rfl
    · intro ls vs a w1 hi hJ hold hdep hdon hcl K hK
      have q14 : a.tmps[14]?.getD undef = .pointer (some ⟨tb, 3, none⟩) := (hdep 5 14 (by kernel_rfl) (by kernel_rfl)).2.1.trans (hdep 5 14 (by kernel_rfl) (by kernel_rfl)).2.2
      have hn11 : ls 11 = false := by
        cases e : ls 11 with
        | false => rfl
        | true =>
          replace e := hcl 11 6 e (by kernel_rfl)
          rw [show ls 6 = false from hi] at e
          cases e
      rw [if_pos (by rfl)]
      clear hold hdep hend hdon hcl o4
      have HJ := Lib.hid hJ
      clear hJ
      have c7 : w1.cell? ⟨tb, 3, none⟩ = some (.slice (some ra) pts.length rc) := by
        have := (bx_cells HJ.out.box).2.2.2.1
        simpa [hn11] using this
      go_simp
      exact hK _ _ (fun _ _ _ h => h) HJ.out rfl
    · intro ls vs a w1 hi hJ hold hdep hdon hcl K hK
      obtain ⟨hl4, q13, p13⟩ := hdep 4 13 (by kernel_rfl) (by kernel_rfl)
      have q15 : a.tmps[15]?.getD undef = .slice (some ra) pts.length rc := (hdep 6 15 (by kernel_rfl) (by kernel_rfl)).2.1.trans (hdep 6 15 (by kernel_rfl) (by kernel_rfl)).2.2
      have hn11 : ls 11 = false := by
        cases e : ls 11 with
        | false => rfl
        | true =>
          replace e := hcl 11 7 e (by kernel_rfl)
          rw [show ls 7 = false from hi] at e
          cases e
      have hl4 := hdon 4 (by kernel_rfl)
      have hl6 := hdon 6 (by kernel_rfl)
      clear hold hdep hend hdon o4
      have HJ := Lib.hid hJ
      clear hJ
      obtain ⟨v', w', r1, r2⟩ := HJ.out.put7 (c := rc) hl4 hi hn11 HST.out.2.1 HST.out.2.2
      refine step_app (by rfl) (.tmp 13) (.tmp 15) 100 (by rfl) _ _ (by simpa [Act.eval, Array.getD_eq_getD_getElem?] using q13) (by simpa [Act.eval, Array.getD_eq_getD_getElem?] using q15) (fun v3 w3 => v3 = v' ∧ w3 = w') ⟨_, _, r1, rfl, rfl⟩ ?_
      rintro v3 w3 ⟨rfl, rfl⟩
      exact hK _ _ (fun _ _ _ h => h) r2 trivial
    · intro ls vs a w1 hi hJ hold hdep hdon hcl K hK
      have q4 : a.tmps[4]?.getD undef = .pointer (some ⟨tb, 0, none⟩) := (hold 4 (by kernel_rfl)).trans o4
      rw [if_pos (by rfl)]
      clear hold hdep hend hdon hcl o4
      have HJ := Lib.hid hJ
      clear hJ
      go_simp
      exact hK _ _ (fun _ _ _ h => h) HJ.out rfl
    · intro ls vs a w1 hi hJ hold hdep hdon hcl K hK
      obtain ⟨hl3, q12, p12⟩ := hdep 3 12 (by kernel_rfl) (by kernel_rfl)
      have q17 : a.tmps[17]?.getD undef = .pointer (some ⟨tb, 2, none⟩) := (hdep 8 17 (by kernel_rfl) (by kernel_rfl)).2.1.trans (hdep 8 17 (by kernel_rfl) (by kernel_rfl)).2.2
      have hl3 := hdon 3 (by kernel_rfl)
      have hl8 := hdon 8 (by kernel_rfl)
      rw [if_pos (by rfl)]
      clear hold hdep hend hdon hcl o4
      have HJ := Lib.hid hJ
      clear hJ
      have j9 := HJ.out.put9 hl3
      have hb := bx_cells HJ.out.box
      have c7 := hb.2.2.1
      have f7 := hb.2.2.2.2.1 2
      have hrow : OwnF 115 1 stC w1 w0.heap.size (vs 3) pts := by
        have := HJ.out.rows
        rw [hl3] at this
        exact this.own (rwSt (vs 3) pts) (by simp [stP])
      obtain ⟨a3, c3, hv3⟩ := ownF_slice hrow
      rw [hv3] at q12
      clear hb hrow
      go_simp
      exact hK undef _ (fun _ _ _ h => h) (by rw [← hv3]; exact j9) trivial
    · intro ls vs a w1 hi hJ hold hdep hdon hcl K hK
      have q4 : a.tmps[4]?.getD undef = .pointer (some ⟨tb, 0, none⟩) := (hold 4 (by kernel_rfl)).trans o4
      rw [if_pos (by rfl)]
      clear hold hdep hend hdon hcl o4
      have HJ := Lib.hid hJ
      clear hJ
      go_simp
      exact hK _ _ (fun _ _ _ h => h) HJ.out rfl
    · intro ls vs a w1 hi hJ hold hdep hdon hcl K hK
      obtain ⟨hl7, q16, p16⟩ := hdep 7 16 (by kernel_rfl) (by kernel_rfl)
      have q18 : a.tmps[18]?.getD undef = .pointer (some ⟨tb, 3, none⟩) := (hdep 10 18 (by kernel_rfl) (by kernel_rfl)).2.1.trans (hdep 10 18 (by kernel_rfl) (by kernel_rfl)).2.2
      have hl7 := hdon 7 (by kernel_rfl)
      have hl10 := hdon 10 (by kernel_rfl)
      rw [if_pos (by rfl)]
      clear hold hdep hend hdon hcl o4
      have HJ := Lib.hid hJ
      clear hJ
      have j11 := HJ.out.put11 hl7
      have hb := bx_cells HJ.out.box
      have c7 := hb.2.2.2.1
      have f7 := hb.2.2.2.2.1 3
      have hrow : OwnF 9 1 rsC w1 w0.heap.size (vs 7) pts := by
        have := HJ.out.rows
        rw [hl7] at this
        exact this.own (rwRs (vs 7) pts) (by simp [rsP])
      obtain ⟨a3, c3, hv3⟩ := ownF_slice hrow
      rw [hv3] at q16
      clear hb hrow
      go_simp
      exact hK undef _ (fun _ _ _ h => h) (by rw [← hv3]; exact j11) trivial
  · intro vs w9 ls9 hl9 hJ9 hφ
    have e0 := hφ 0 (by kernel_rfl)
    have e1 := hφ 1 (by kernel_rfl)
    have e2 := hφ 2 (by kernel_rfl)
    have e3 := hφ 3 (by kernel_rfl)
    have e4 := hφ 4 (by kernel_rfl)
    have e5 := hφ 5 (by kernel_rfl)
    have e6 := hφ 6 (by kernel_rfl)
    have e7 := hφ 7 (by kernel_rfl)
    have e8 := hφ 8 (by kernel_rfl)
    have e10 := hφ 10 (by kernel_rfl)
    have hq := hend vs w9 ls9 hl9 hJ9 e0 e1 e2 e3 e4 e5 e6 e7 e8 e10
    simp only [Act.put] at hq
    simp only [putAll, Act.put]
    exact hq
end Go.Proofs.YtplbofhgmflnlaaGreat
end
section
/-
  The second region of the reference's 'with': the new state and reason.
-/
set_option linter.unusedVariables false
set_option linter.unusedSimpArgs false
namespace Go.Proofs.YtplbofhgmflnlaaGreat
open Go.RowKit
theorem st_write {w0 wz : World} {tb g3 c3 g7 c7 k : Nat} {Bv Ov : Value} {pts : List Pt} {p : Pt} {L : List Rw} {l9 l11 : Bool} (hk : k < pts.length)
    (h : Ext w0 wz ∧ RowsAt wz w0.heap.size (rwX tb Bv Ov (.slice (some ⟨g3, 0, none⟩) pts.length c3) (.slice (some ⟨g7, 0, none⟩) pts.length c7) :: rwSt (.slice (some ⟨g3, 0, none⟩) pts.length c3) (if l9 then pts.set k p else pts) :: rwRs (.slice (some ⟨g7, 0, none⟩) pts.length c7) (if l11 then pts.set k p else pts) :: L)) (h9 : l9 = false) :
    (∃ u, wz.cell? ⟨g3, k, none⟩ = some u) ∧ wz.frozen? ⟨g3, k, none⟩ = false ∧ Ext w0 (wz.setCell ⟨g3, k, none⟩ (.int .u8 p.st)) ∧ RowsAt (wz.setCell ⟨g3, k, none⟩ (.int .u8 p.st)) w0.heap.size (rwX tb Bv Ov (.slice (some ⟨g3, 0, none⟩) pts.length c3) (.slice (some ⟨g7, 0, none⟩) pts.length c7) :: rwSt (.slice (some ⟨g3, 0, none⟩) pts.length c3) (pts.set k p) :: rwRs (.slice (some ⟨g7, 0, none⟩) pts.length c7) (if l11 then pts.set k p else pts) :: L) := by
  subst h9
  obtain ⟨he, hr⟩ := h
  simp only [Bool.false_eq_true, if_false] at hr
  have hown : OwnF 115 1 stC wz w0.heap.size (.slice (some ⟨g3, 0, none⟩) pts.length c3) pts := hr.get (i := 1) rfl
  obtain ⟨g, hg, hB, -, hc⟩ := hown.cell stC_len k hk
  simp only [Option.some.injEq, Addr.mk.injEq, and_true] at hg
  subst hg
  have c0 := hc 0 (by omega)
  rw [Nat.mul_one, Nat.add_zero] at c0
  have hset := OwnF.setCell1 stC_len hown k hk 0 (by omega) (.int .u8 p.st) p rfl
  rw [Nat.mul_one, Nat.add_zero] at hset
  refine ⟨⟨_, by rw [c0]; rfl⟩, hown.frozenAt k, he.set hB _, ?_⟩
  exact hr.written (i := 1) (r' := rwSt (.slice (some ⟨g3, 0, none⟩) pts.length c3) (pts.set k p)) rfl ((ExtX.refl g3 wz).set k _) rfl rfl hset
theorem rs_write {w0 wz : World} {tb g3 c3 g7 c7 k : Nat} {Bv Ov : Value} {pts : List Pt} {p : Pt} {L : List Rw} {l9 l11 : Bool} (hk : k < pts.length)
    (h : Ext w0 wz ∧ RowsAt wz w0.heap.size (rwX tb Bv Ov (.slice (some ⟨g3, 0, none⟩) pts.length c3) (.slice (some ⟨g7, 0, none⟩) pts.length c7) :: rwSt (.slice (some ⟨g3, 0, none⟩) pts.length c3) (if l9 then pts.set k p else pts) :: rwRs (.slice (some ⟨g7, 0, none⟩) pts.length c7) (if l11 then pts.set k p else pts) :: L)) (h11 : l11 = false) :
    (∃ u, wz.cell? ⟨g7, k, none⟩ = some u) ∧ wz.frozen? ⟨g7, k, none⟩ = false ∧ Ext w0 (wz.setCell ⟨g7, k, none⟩ (.string p.rs)) ∧ RowsAt (wz.setCell ⟨g7, k, none⟩ (.string p.rs)) w0.heap.size (rwX tb Bv Ov (.slice (some ⟨g3, 0, none⟩) pts.length c3) (.slice (some ⟨g7, 0, none⟩) pts.length c7) :: rwSt (.slice (some ⟨g3, 0, none⟩) pts.length c3) (if l9 then pts.set k p else pts) :: rwRs (.slice (some ⟨g7, 0, none⟩) pts.length c7) (pts.set k p) :: L) := by
  subst h11
  obtain ⟨he, hr⟩ := h
  simp only [Bool.false_eq_true, if_false] at hr
  have hown : OwnF 9 1 rsC wz w0.heap.size (.slice (some ⟨g7, 0, none⟩) pts.length c7) pts := hr.get (i := 2) rfl
  obtain ⟨g, hg, hB, -, hc⟩ := hown.cell rsC_len k hk
  simp only [Option.some.injEq, Addr.mk.injEq, and_true] at hg
  subst hg
  have c0 := hc 0 (by omega)
  rw [Nat.mul_one, Nat.add_zero] at c0
  have hset := OwnF.setCell1 rsC_len hown k hk 0 (by omega) (.string p.rs) p rfl
  rw [Nat.mul_one, Nat.add_zero] at hset
  refine ⟨⟨_, by rw [c0]; rfl⟩, hown.frozenAt k, he.set hB _, ?_⟩
  exact hr.written (i := 2) (r' := rwRs (.slice (some ⟨g7, 0, none⟩) pts.length c7) (pts.set k p)) rfl ((ExtX.refl g7 wz).set k _) rfl rfl hset
set_option maxRecDepth 100000 in
set_option maxHeartbeats 4000000 in
theorem wj_law {tb g3 c3 g7 c7 k : Nat} {Bv Ov : Value} {pts : List Pt} {p : Pt} {L : List Rw} {w0 wr : World} (hk0 : (0 : Int) ≤ (k : Int)) (hkn : (k : Int) < (pts.length : Int)) (HKP : Hid (k < pts.length)) (HR0 : Hid (Ext w0 wr ∧ RowsAt wr w0.heap.size (rwX tb Bv Ov (.slice (some ⟨g3, 0, none⟩) pts.length c3) (.slice (some ⟨g7, 0, none⟩) pts.length c7) :: rwSt (.slice (some ⟨g3, 0, none⟩) pts.length c3) pts :: rwRs (.slice (some ⟨g7, 0, none⟩) pts.length c7) pts :: L))) {Q : Exit → Act → World → Prop} (aZ : Act) (hsz : aZ.tmps.size = 30) (o1 : aZ.tmps[1]?.getD undef = .int .i64 (k : Int)) (o2 : aZ.tmps[2]?.getD undef = .int .u8 p.st) (o3 : aZ.tmps[3]?.getD undef = .string p.rs) (o4 : aZ.tmps[4]?.getD undef = .pointer (some ⟨tb, 0, none⟩))
    (hend : ∀ (vs : Nat → Value) (w9 : World) (ls9 : Nat → Bool), (∀ j : Nat, j < 12 → ls9 j = true) → (Ext w0 w9 ∧ RowsAt w9 w0.heap.size (rwX tb Bv Ov (.slice (some ⟨g3, 0, none⟩) pts.length c3) (.slice (some ⟨g7, 0, none⟩) pts.length c7) :: rwSt (.slice (some ⟨g3, 0, none⟩) pts.length c3) (if ls9 9 then pts.set k p else pts) :: rwRs (.slice (some ⟨g7, 0, none⟩) pts.length c7) (if ls9 11 then pts.set k p else pts) :: L)) → (vs 0 = .pointer (some ⟨tb, 2, none⟩)) → (vs 1 = .slice (some ⟨g3, 0, none⟩) pts.length c3) → (vs 2 = .int .i64 (k : Int)) → (vs 3 = .pointer (some ⟨tb, 3, none⟩)) → (vs 4 = .slice (some ⟨g7, 0, none⟩) pts.length c7) → (vs 5 = .int .i64 (k : Int)) → (vs 6 = .int .u8 p.st) → (vs 7 = .string p.rs) → (vs 8 = .pointer (some ⟨g3, k, none⟩)) → (vs 10 = .pointer (some ⟨g7, k, none⟩)) → Q .normal ((((((((((aZ.put (some 19) (vs 0)).put (some 20) (vs 1)).put (some 21) (vs 2)).put (some 22) (vs 3)).put (some 23) (vs 4)).put (some 24) (vs 5)).put (some 25) (vs 6)).put (some 26) (vs 7)).put (some 27) (vs 8)).put (some 28) (vs 10)) w9) : (regOf Tryz.f99 2).wp Tryz.prog Q aZ wr := by
  conv => arg 2; whnf
  refine wp_region_said3 (fun i v wz => match i with
    | 0 => v = .pointer (some ⟨tb, 2, none⟩)
    | 1 => v = .slice (some ⟨g3, 0, none⟩) pts.length c3
    | 2 => v = .int .i64 (k : Int)
    | 3 => v = .pointer (some ⟨tb, 3, none⟩)
    | 4 => v = .slice (some ⟨g7, 0, none⟩) pts.length c7
    | 5 => v = .int .i64 (k : Int)
    | 6 => v = .int .u8 p.st
    | 7 => v = .string p.rs
    | 8 => v = .pointer (some ⟨g3, k, none⟩)
    | 9 => True
    | 10 => v = .pointer (some ⟨g7, k, none⟩)
    | _ => True) (fun ls vs wz => Ext w0 wz ∧ RowsAt wz w0.heap.size (rwX tb Bv Ov (.slice (some ⟨g3, 0, none⟩) pts.length c3) (.slice (some ⟨g7, 0, none⟩) pts.length c7) :: rwSt (.slice (some ⟨g3, 0, none⟩) pts.length c3) (if ls 9 then pts.set k p else pts) :: rwRs (.slice (some ⟨g7, 0, none⟩) pts.length c7) (if ls 11 then pts.set k p else pts) :: L)) (by kernel_rfl) (by kernel_rfl) (by rw [hsz]; kernel_rfl) ?_ ?_ ?_
  · exact ⟨HR0.out.1.drew, HR0.out.2.ext (Ext.refl _).drew⟩
  · refine ⟨?_, ?_, ?_, ?_, ?_, ?_, ?_, ?_, ?_, ?_, ?_, ?_, trivial⟩
    · intro ls vs a w1 hi hJ hold hdep hdon hcl K hK
      have q4 : a.tmps[4]?.getD undef = .pointer (some ⟨tb, 0, none⟩) := (hold 4 (by kernel_rfl)).trans o4
      rw [if_pos (by rfl)]
      clear hold hdep hend hdon hcl o1 o2 o3 o4
      have HJ := Lib.hid hJ
      clear hJ
      go_simp
      exact hK _ _ (fun _ _ _ h => h) HJ.out rfl
    · intro ls vs a w1 hi hJ hold hdep hdon hcl K hK
      have q19 : a.tmps[19]?.getD undef = .pointer (some ⟨tb, 2, none⟩) := (hdep 0 19 (by kernel_rfl) (by kernel_rfl)).2.1.trans (hdep 0 19 (by kernel_rfl) (by kernel_rfl)).2.2
      rw [if_pos (by rfl)]
      clear hold hdep hend hdon hcl o1 o2 o3 o4
      have HJ := Lib.hid hJ
      clear hJ
      have c7' : w1.cell? ⟨tb, 2, none⟩ = some (.slice (some ⟨g3, 0, none⟩) pts.length c3) := (bx_cells (HJ.out.2.own _ (List.mem_cons_self))).2.2.1
      go_simp
      exact hK _ _ (fun _ _ _ h => h) HJ.out rfl
    · intro ls vs a w1 hi hJ hold hdep hdon hcl K hK
      have q1 : a.tmps[1]?.getD undef = .int .i64 (k : Int) := (hold 1 (by kernel_rfl)).trans o1
      rw [if_pos (by rfl)]
      clear hold hdep hend hdon hcl o1 o2 o3 o4
      have HJ := Lib.hid hJ
      clear hJ
      go_simp
      exact hK _ _ (fun _ _ _ h => h) HJ.out rfl
    · intro ls vs a w1 hi hJ hold hdep hdon hcl K hK
      have q4 : a.tmps[4]?.getD undef = .pointer (some ⟨tb, 0, none⟩) := (hold 4 (by kernel_rfl)).trans o4
      rw [if_pos (by rfl)]
      clear hold hdep hend hdon hcl o1 o2 o3 o4
      have HJ := Lib.hid hJ
      clear hJ
      go_simp
      exact hK _ _ (fun _ _ _ h => h) HJ.out rfl
    · intro ls vs a w1 hi hJ hold hdep hdon hcl K hK
      have q22 : a.tmps[22]?.getD undef = .pointer (some ⟨tb, 3, none⟩) := (hdep 3 22 (by kernel_rfl) (by kernel_rfl)).2.1.trans (hdep 3 22 (by kernel_rfl) (by kernel_rfl)).2.2
      rw [if_pos (by rfl)]
      clear hold hdep hend hdon hcl o1 o2 o3 o4
      have HJ := Lib.hid hJ
      clear hJ
      have c7' : w1.cell? ⟨tb, 3, none⟩ = some (.slice (some ⟨g7, 0, none⟩) pts.length c7) := (bx_cells (HJ.out.2.own _ (List.mem_cons_self))).2.2.2.1
      go_simp
      exact hK _ _ (fun _ _ _ h => h) HJ.out rfl
    · intro ls vs a w1 hi hJ hold hdep hdon hcl K hK
      have q1 : a.tmps[1]?.getD undef = .int .i64 (k : Int) := (hold 1 (by kernel_rfl)).trans o1
      rw [if_pos (by rfl)]
      clear hold hdep hend hdon hcl o1 o2 o3 o4
      have HJ := Lib.hid hJ
      clear hJ
      go_simp
      exact hK _ _ (fun _ _ _ h => h) HJ.out rfl
    · intro ls vs a w1 hi hJ hold hdep hdon hcl K hK
      have q2 : a.tmps[2]?.getD undef = .int .u8 p.st := (hold 2 (by kernel_rfl)).trans o2
      rw [if_pos (by rfl)]
      clear hold hdep hend hdon hcl o1 o2 o3 o4
      have HJ := Lib.hid hJ
      clear hJ
      go_simp
      exact hK _ _ (fun _ _ _ h => h) HJ.out rfl
    · intro ls vs a w1 hi hJ hold hdep hdon hcl K hK
      have q3 : a.tmps[3]?.getD undef = .string p.rs := (hold 3 (by kernel_rfl)).trans o3
      rw [if_pos (by rfl)]
      clear hold hdep hend hdon hcl o1 o2 o3 o4
      have HJ := Lib.hid hJ
      clear hJ
      go_simp
      exact hK _ _ (fun _ _ _ h => h) HJ.out rfl
    · intro ls vs a w1 hi hJ hold hdep hdon hcl K hK
      have q20 : a.tmps[20]?.getD undef = .slice (some ⟨g3, 0, none⟩) pts.length c3 := (hdep 1 20 (by kernel_rfl) (by kernel_rfl)).2.1.trans (hdep 1 20 (by kernel_rfl) (by kernel_rfl)).2.2
      have q21 : a.tmps[21]?.getD undef = .int .i64 (k : Int) := (hdep 2 21 (by kernel_rfl) (by kernel_rfl)).2.1.trans (hdep 2 21 (by kernel_rfl) (by kernel_rfl)).2.2
      rw [if_pos (by rfl)]
      clear hold hdep hend hdon hcl o1 o2 o3 o4
      have HJ := Lib.hid hJ
      clear hJ
      go_simp
      exact hK _ _ (fun _ _ _ h => h) HJ.out rfl
    · intro ls vs a w1 hi hJ hold hdep hdon hcl K hK
      have q25 : a.tmps[25]?.getD undef = .int .u8 p.st := (hdep 6 25 (by kernel_rfl) (by kernel_rfl)).2.1.trans (hdep 6 25 (by kernel_rfl) (by kernel_rfl)).2.2
      have q27 : a.tmps[27]?.getD undef = .pointer (some ⟨g3, k, none⟩) := (hdep 8 27 (by kernel_rfl) (by kernel_rfl)).2.1.trans (hdep 8 27 (by kernel_rfl) (by kernel_rfl)).2.2
      have hl6 := hdon 6 (by kernel_rfl)
      have hl8 := hdon 8 (by kernel_rfl)
      rw [if_pos (by rfl)]
      clear hold hdep hend hdon hcl o1 o2 o3 o4
      have HJ := Lib.hid hJ
      clear hJ
      have hs := st_write HKP.out (p := p) HJ.out hi
      obtain ⟨⟨u0, s1⟩, s2, s3, s4⟩ := hs
      go_simp
      exact hK undef _ (fun _ _ _ h => h) ⟨s3, s4⟩ trivial
    · intro ls vs a w1 hi hJ hold hdep hdon hcl K hK
      have q23 : a.tmps[23]?.getD undef = .slice (some ⟨g7, 0, none⟩) pts.length c7 := (hdep 4 23 (by kernel_rfl) (by kernel_rfl)).2.1.trans (hdep 4 23 (by kernel_rfl) (by kernel_rfl)).2.2
      have q24 : a.tmps[24]?.getD undef = .int .i64 (k : Int) := (hdep 5 24 (by kernel_rfl) (by kernel_rfl)).2.1.trans (hdep 5 24 (by kernel_rfl) (by kernel_rfl)).2.2
      rw [if_pos (by rfl)]
      clear hold hdep hend hdon hcl o1 o2 o3 o4
      have HJ := Lib.hid hJ
      clear hJ
      go_simp
      exact hK _ _ (fun _ _ _ h => h) HJ.out rfl
    · intro ls vs a w1 hi hJ hold hdep hdon hcl K hK
      have q26 : a.tmps[26]?.getD undef = .string p.rs := (hdep 7 26 (by kernel_rfl) (by kernel_rfl)).2.1.trans (hdep 7 26 (by kernel_rfl) (by kernel_rfl)).2.2
      have q28 : a.tmps[28]?.getD undef = .pointer (some ⟨g7, k, none⟩) := (hdep 10 28 (by kernel_rfl) (by kernel_rfl)).2.1.trans (hdep 10 28 (by kernel_rfl) (by kernel_rfl)).2.2
      have hl7 := hdon 7 (by kernel_rfl)
      have hl10 := hdon 10 (by kernel_rfl)
      rw [if_pos (by rfl)]
      clear hold hdep hend hdon hcl o1 o2 o3 o4
      have HJ := Lib.hid hJ
      clear hJ
      have hs := rs_write HKP.out (p := p) HJ.out hi
      obtain ⟨⟨u0, s1⟩, s2, s3, s4⟩ := hs
      go_simp
      exact hK undef _ (fun _ _ _ h => h) ⟨s3, s4⟩ trivial
  · intro vs w9 ls9 hl9 hJ9 hφ
    have e0 := hφ 0 (by kernel_rfl)
    have e1 := hφ 1 (by kernel_rfl)
    have e2 := hφ 2 (by kernel_rfl)
    have e3 := hφ 3 (by kernel_rfl)
    have e4 := hφ 4 (by kernel_rfl)
    have e5 := hφ 5 (by kernel_rfl)
    have e6 := hφ 6 (by kernel_rfl)
    have e7 := hφ 7 (by kernel_rfl)
    have e8 := hφ 8 (by kernel_rfl)
    have e10 := hφ 10 (by kernel_rfl)
    have hq := hend vs w9 ls9 hl9 hJ9 e0 e1 e2 e3 e4 e5 e6 e7 e8 e10
    simp only [Act.put] at hq
    simp only [putAll, Act.put]
    exact hq
end Go.Proofs.YtplbofhgmflnlaaGreat
end
