/-
  Texts merged: RI, RJ, RK.
-/
import Derived.Test.YtlahejakcgoheaaRE4
section
/-
  Walks of the reference: plain.
-/
set_option linter.unusedVariables false
set_option linter.unusedSimpArgs false
namespace Go.Proofs.Ytlahejakcgoheaa
open Go.RowKit
set_option maxRecDepth 100000 in
set_option maxHeartbeats 4000000 in
theorem rplain_any (x : Lv) (w : World) : Calls Try.prog 88 #[lval x] w (Ret (.bool (plainB x.l)) w) := by
  have ik := isEmpty_eq x.l.ki
  have ic := isEmpty_eq x.l.cu
  obtain ⟨q, hq⟩ : ∃ q, q = plainB x.l := ⟨_, rfl⟩
  rw [← hq]
  have HQ := Lib.hid hq
  clear hq
  obtain ⟨L, hL⟩ : ∃ L, L = x.l.bo.length := ⟨_, rfl⟩
  have HL := Lib.hid hL
  clear hL
  cases O1 : ((x.l.op : Int) == 1)
  · cases O2 : ((x.l.op : Int) == 2)
    · cases O3 : ((x.l.op : Int) == 3)
      · cases O4 : ((x.l.op : Int) == 4)
        · cases O5 : ((x.l.op : Int) == 5)
          · have HP := Lib.hid (plainB_0 x.l (by simp at O1; omega) (by simp at O2; omega) (by simp at O3; omega) (by simp at O4; omega) (by simp at O5; omega))
            go_enter Try.func88, Try.ntmps88
            go_upto_region 1 with fail
            generalize hw1 : World.alloc _ _ = w1
            obtain ⟨he, o1, -⟩ := alloc1 hw1
            obtain ⟨d0, d1, d2, d3, d4, d5, d6, d7, d8, d9⟩ := obj_cells10 o1
            clear hw1 o1
            have E1 := Ext.refl w1
            go_wp2_with (fail)
            go_ret
            refine ⟨?_, he⟩
            rw [HQ.out, HP.out]
            rfl
          · have HP := Lib.hid (plainB_5 x.l (by simp at O5; omega))
            cases U : (x.l.un == 0)
            · skip
              go_enter Try.func88, Try.ntmps88
              go_upto_region 1 with fail
              generalize hw1 : World.alloc _ _ = w1
              obtain ⟨he, o1, -⟩ := alloc1 hw1
              obtain ⟨d0, d1, d2, d3, d4, d5, d6, d7, d8, d9⟩ := obj_cells10 o1
              clear hw1 o1
              have E1 := Ext.refl w1
              go_wp2_with (fail)
              go_ret
              refine ⟨?_, he⟩
              rw [HQ.out, HP.out]
              exact ret_bool (by simp [U])
            · skip
              go_enter Try.func88, Try.ntmps88
              go_upto_region 1 with fail
              generalize hw1 : World.alloc _ _ = w1
              obtain ⟨he, o1, -⟩ := alloc1 hw1
              obtain ⟨d0, d1, d2, d3, d4, d5, d6, d7, d8, d9⟩ := obj_cells10 o1
              clear hw1 o1
              have E1 := Ext.refl w1
              go_wp2_with (fail)
              go_ret
              refine ⟨?_, he⟩
              rw [HQ.out, HP.out]
              exact ret_bool (by simp [U])
        · have HP := Lib.hid (plainB_4 x.l (by simp at O4; omega))
          cases K : (x.l.ki.size == 0)
          · have eK := empty_no K
            go_enter Try.func88, Try.ntmps88
            go_upto_region 1 with fail
            generalize hw1 : World.alloc _ _ = w1
            obtain ⟨he, o1, -⟩ := alloc1 hw1
            obtain ⟨d0, d1, d2, d3, d4, d5, d6, d7, d8, d9⟩ := obj_cells10 o1
            clear hw1 o1
            have E1 := Ext.refl w1
            go_wp2_with (fail)
            go_ret
            refine ⟨?_, he⟩
            rw [HQ.out, HP.out]
            exact ret_bool (by simp [K])
          · have eK := empty_yes K
            cases U : (x.l.un == 0)
            · skip
              go_enter Try.func88, Try.ntmps88
              go_upto_region 1 with fail
              generalize hw1 : World.alloc _ _ = w1
              obtain ⟨he, o1, -⟩ := alloc1 hw1
              obtain ⟨d0, d1, d2, d3, d4, d5, d6, d7, d8, d9⟩ := obj_cells10 o1
              clear hw1 o1
              have E1 := Ext.refl w1
              go_wp2_with (fail)
              go_ret
              refine ⟨?_, he⟩
              rw [HQ.out, HP.out]
              exact ret_bool (by simp [K, U])
            · skip
              go_enter Try.func88, Try.ntmps88
              go_upto_region 1 with fail
              generalize hw1 : World.alloc _ _ = w1
              obtain ⟨he, o1, -⟩ := alloc1 hw1
              obtain ⟨d0, d1, d2, d3, d4, d5, d6, d7, d8, d9⟩ := obj_cells10 o1
              clear hw1 o1
              have E1 := Ext.refl w1
              go_wp2_with (fail)
              go_ret
              refine ⟨?_, he⟩
              rw [HQ.out, HP.out]
              exact ret_bool (by simp [K, U])
      · have HP := Lib.hid (plainB_3 x.l (by simp at O3; omega))
        go_enter Try.func88, Try.ntmps88
        go_upto_region 1 with fail
        generalize hw1 : World.alloc _ _ = w1
        obtain ⟨he, o1, -⟩ := alloc1 hw1
        obtain ⟨d0, d1, d2, d3, d4, d5, d6, d7, d8, d9⟩ := obj_cells10 o1
        clear hw1 o1
        have E1 := Ext.refl w1
        go_wp2_with (fail)
        go_ret
        refine ⟨?_, he⟩
        rw [HQ.out, HP.out]
        rfl
    · have HP := Lib.hid (plainB_2 x.l (by simp at O2; omega))
      cases C : (x.l.cu.size == 0)
      · have eC := empty_no C
        go_enter Try.func88, Try.ntmps88
        go_upto_region 1 with fail
        generalize hw1 : World.alloc _ _ = w1
        obtain ⟨he, o1, -⟩ := alloc1 hw1
        obtain ⟨d0, d1, d2, d3, d4, d5, d6, d7, d8, d9⟩ := obj_cells10 o1
        clear hw1 o1
        have E1 := Ext.refl w1
        go_wp2_with (fail)
        go_ret
        refine ⟨?_, he⟩
        rw [HQ.out, HP.out]
        exact ret_bool (by simp [C])
      · have eC := empty_yes C
        cases K : (x.l.ki.size == 0)
        · have eK := empty_no K
          go_enter Try.func88, Try.ntmps88
          go_upto_region 1 with fail
          generalize hw1 : World.alloc _ _ = w1
          obtain ⟨he, o1, -⟩ := alloc1 hw1
          obtain ⟨d0, d1, d2, d3, d4, d5, d6, d7, d8, d9⟩ := obj_cells10 o1
          clear hw1 o1
          have E1 := Ext.refl w1
          go_wp2_with (fail)
          go_ret
          refine ⟨?_, he⟩
          rw [HQ.out, HP.out]
          exact ret_bool (by simp [C, K])
        · have eK := empty_yes K
          cases N : (x.l.nu == 0)
          · skip
            go_enter Try.func88, Try.ntmps88
            go_upto_region 1 with fail
            generalize hw1 : World.alloc _ _ = w1
            obtain ⟨he, o1, -⟩ := alloc1 hw1
            obtain ⟨d0, d1, d2, d3, d4, d5, d6, d7, d8, d9⟩ := obj_cells10 o1
            clear hw1 o1
            have E1 := Ext.refl w1
            go_wp2_with (fail)
            go_ret
            refine ⟨?_, he⟩
            rw [HQ.out, HP.out]
            exact ret_bool (by simp [C, K, N])
          · skip
            cases V : (x.l.ve == 0)
            · skip
              go_enter Try.func88, Try.ntmps88
              go_upto_region 1 with fail
              generalize hw1 : World.alloc _ _ = w1
              obtain ⟨he, o1, -⟩ := alloc1 hw1
              obtain ⟨d0, d1, d2, d3, d4, d5, d6, d7, d8, d9⟩ := obj_cells10 o1
              clear hw1 o1
              have E1 := Ext.refl w1
              go_wp2_with (fail)
              go_ret
              refine ⟨?_, he⟩
              rw [HQ.out, HP.out]
              exact ret_bool (by simp [C, K, N, V])
            · skip
              cases U : (x.l.un == 0)
              · skip
                go_enter Try.func88, Try.ntmps88
                go_upto_region 1 with fail
                generalize hw1 : World.alloc _ _ = w1
                obtain ⟨he, o1, -⟩ := alloc1 hw1
                obtain ⟨d0, d1, d2, d3, d4, d5, d6, d7, d8, d9⟩ := obj_cells10 o1
                clear hw1 o1
                have E1 := Ext.refl w1
                go_wp2_with (fail)
                go_ret
                refine ⟨?_, he⟩
                rw [HQ.out, HP.out]
                exact ret_bool (by simp [C, K, N, V, U])
              · skip
                cases B : ((x.l.bo.length : Int) == 0)
                · skip
                  go_enter Try.func88, Try.ntmps88
                  go_upto_region 1 with fail
                  generalize hw1 : World.alloc _ _ = w1
                  obtain ⟨he, o1, -⟩ := alloc1 hw1
                  obtain ⟨d0, d1, d2, d3, d4, d5, d6, d7, d8, d9⟩ := obj_cells10 o1
                  clear hw1 o1
                  have E1 := Ext.refl w1
                  go_wp2_with (fail)
                  go_ret
                  refine ⟨?_, he⟩
                  rw [HQ.out, HP.out]
                  exact ret_bool (by simp [C, K, N, V, U, B])
                · skip
                  cases T : ((x.l.tag : Int) == 0)
                  · skip
                    go_enter Try.func88, Try.ntmps88
                    go_upto_region 1 with fail
                    generalize hw1 : World.alloc _ _ = w1
                    obtain ⟨he, o1, -⟩ := alloc1 hw1
                    obtain ⟨d0, d1, d2, d3, d4, d5, d6, d7, d8, d9⟩ := obj_cells10 o1
                    clear hw1 o1
                    have E1 := Ext.refl w1
                    go_wp2_with (fail)
                    go_ret
                    refine ⟨?_, he⟩
                    rw [HQ.out, HP.out]
                    exact ret_bool (by simp [C, K, N, V, U, B, T])
                  · skip
                    go_enter Try.func88, Try.ntmps88
                    go_upto_region 1 with fail
                    generalize hw1 : World.alloc _ _ = w1
                    obtain ⟨he, o1, -⟩ := alloc1 hw1
                    obtain ⟨d0, d1, d2, d3, d4, d5, d6, d7, d8, d9⟩ := obj_cells10 o1
                    clear hw1 o1
                    have E1 := Ext.refl w1
                    go_wp2_with (fail)
                    go_ret
                    refine ⟨?_, he⟩
                    rw [HQ.out, HP.out]
                    exact ret_bool (by simp [C, K, N, V, U, B, T])
  · have HP := Lib.hid (plainB_1 x.l (by simp at O1; omega))
    cases K : (x.l.ki.size == 0)
    · have eK := empty_no K
      go_enter Try.func88, Try.ntmps88
      go_upto_region 1 with fail
      generalize hw1 : World.alloc _ _ = w1
      obtain ⟨he, o1, -⟩ := alloc1 hw1
      obtain ⟨d0, d1, d2, d3, d4, d5, d6, d7, d8, d9⟩ := obj_cells10 o1
      clear hw1 o1
      have E1 := Ext.refl w1
      go_wp2_with (fail)
      go_ret
      refine ⟨?_, he⟩
      rw [HQ.out, HP.out]
      exact ret_bool (by simp [K])
    · have eK := empty_yes K
      cases N : (x.l.nu == 0)
      · skip
        go_enter Try.func88, Try.ntmps88
        go_upto_region 1 with fail
        generalize hw1 : World.alloc _ _ = w1
        obtain ⟨he, o1, -⟩ := alloc1 hw1
        obtain ⟨d0, d1, d2, d3, d4, d5, d6, d7, d8, d9⟩ := obj_cells10 o1
        clear hw1 o1
        have E1 := Ext.refl w1
        go_wp2_with (fail)
        go_ret
        refine ⟨?_, he⟩
        rw [HQ.out, HP.out]
        exact ret_bool (by simp [K, N])
      · skip
        cases V : (x.l.ve == 0)
        · skip
          go_enter Try.func88, Try.ntmps88
          go_upto_region 1 with fail
          generalize hw1 : World.alloc _ _ = w1
          obtain ⟨he, o1, -⟩ := alloc1 hw1
          obtain ⟨d0, d1, d2, d3, d4, d5, d6, d7, d8, d9⟩ := obj_cells10 o1
          clear hw1 o1
          have E1 := Ext.refl w1
          go_wp2_with (fail)
          go_ret
          refine ⟨?_, he⟩
          rw [HQ.out, HP.out]
          exact ret_bool (by simp [K, N, V])
        · skip
          cases D : (x.l.da == 0)
          · skip
            go_enter Try.func88, Try.ntmps88
            go_upto_region 1 with fail
            generalize hw1 : World.alloc _ _ = w1
            obtain ⟨he, o1, -⟩ := alloc1 hw1
            obtain ⟨d0, d1, d2, d3, d4, d5, d6, d7, d8, d9⟩ := obj_cells10 o1
            clear hw1 o1
            have E1 := Ext.refl w1
            go_wp2_with (fail)
            go_ret
            refine ⟨?_, he⟩
            rw [HQ.out, HP.out]
            exact ret_bool (by simp [K, N, V, D])
          · skip
            cases U : (x.l.un == 0)
            · skip
              go_enter Try.func88, Try.ntmps88
              go_upto_region 1 with fail
              generalize hw1 : World.alloc _ _ = w1
              obtain ⟨he, o1, -⟩ := alloc1 hw1
              obtain ⟨d0, d1, d2, d3, d4, d5, d6, d7, d8, d9⟩ := obj_cells10 o1
              clear hw1 o1
              have E1 := Ext.refl w1
              go_wp2_with (fail)
              go_ret
              refine ⟨?_, he⟩
              rw [HQ.out, HP.out]
              exact ret_bool (by simp [K, N, V, D, U])
            · skip
              cases B : ((x.l.bo.length : Int) == 0)
              · skip
                go_enter Try.func88, Try.ntmps88
                go_upto_region 1 with fail
                generalize hw1 : World.alloc _ _ = w1
                obtain ⟨he, o1, -⟩ := alloc1 hw1
                obtain ⟨d0, d1, d2, d3, d4, d5, d6, d7, d8, d9⟩ := obj_cells10 o1
                clear hw1 o1
                have E1 := Ext.refl w1
                go_wp2_with (fail)
                go_ret
                refine ⟨?_, he⟩
                rw [HQ.out, HP.out]
                exact ret_bool (by simp [K, N, V, D, U, B])
              · skip
                go_enter Try.func88, Try.ntmps88
                go_upto_region 1 with fail
                generalize hw1 : World.alloc _ _ = w1
                obtain ⟨he, o1, -⟩ := alloc1 hw1
                obtain ⟨d0, d1, d2, d3, d4, d5, d6, d7, d8, d9⟩ := obj_cells10 o1
                clear hw1 o1
                have E1 := Ext.refl w1
                go_wp2_with (fail)
                go_ret
                refine ⟨?_, he⟩
                rw [HQ.out, HP.out]
                exact ret_bool (by simp [K, N, V, D, U, B])
end Go.Proofs.Ytlahejakcgoheaa
end
section
/-
  Base words: appends to one's own bytes beside other bytes of one's own.
-/
set_option linter.unusedVariables false
set_option linter.unusedSimpArgs false
namespace Go.Proofs.Ytlahejakcgoheaa
open Go.RowKit
/-- Two values have no block in common. -/
def disj (v u : Value) : Prop := ∀ k, v.ownBlock = some k → u.ownBlock ≠ some k
theorem disj.symm {v u : Value} (h : disj v u) : disj u v := fun k h1 h2 => h k h2 h1
theorem disj.made {w : World} {B B' : Nat} {v u : Value} {xs ys : List UInt8} (h : OwnB w B v xs) {w' : World} (h2 : OwnB w' B' u ys) (hb : w.heap.size ≤ B') : disj v u := fun k h3 h4 => by
  have := (h.lt k h3).2; have := (h2.lt k h4).1; omega
theorem app_beside (w : World) (B : Nat) (ty : TypeId) (v : Value) (xs ys : List UInt8) (a : Option Addr) (c : Nat) (hv : OwnB w B v xs) (hx : Byts w a ys) (hn : xs.length + ys.length ≤ 140737488355328) (hB : B ≤ w.heap.size) :
    ∃ v' w', (Builtin.append_ #[23, 23] ty #[v, .slice a ys.length c]).run Try.prog w = .ok v' w' ∧ OwnB w' B v' (xs ++ ys) ∧ (∀ w0, Ext w0 w → w0.heap.size ≤ B → Ext w0 w') ∧ ∀ u us, OwnB w B u us → disj v u → OwnB w' B u us ∧ disj v' u := by
  obtain ⟨v', w', r1, r2, r3, r4⟩ := app_bytes w B ty v xs ys a c hv hx hn hB
  refine ⟨v', w', r1, r2, fun w0 e hb => grown_ext e r3 fun k hk => by have := (hv.lt k hk).1; omega, fun u us hu hd => ⟨hu.of_block fun k hk => ?_, fun k h1 h2 => ?_⟩⟩
  · exact r3.block k (hu.lt k hk).2 fun e => hd k e.symm hk
  · rcases r4 with r4 | r4
    · exact hd k (r4 ▸ h1) h2
    · rw [r4] at h1
      have := (hu.lt k h2).2
      have := Option.some.inj h1
      omega
/-- What holds between the operations of a region that joins three rows of bytes: v2 (one byte), v6 and v11 (made by calls), v7 = v2 and v6, v12 = v7 and v11. -/
structure J95 (w0 : World) (xs nb vb : List UInt8) (w : World) (l2 l6 l7 l11 l12 : Bool) (v2 v6 v7 v11 v12 : Value) : Prop where
  x : Ext w0 w
  a2 : l2 = true → l7 = false → OwnB w w0.heap.size v2 xs
  a6 : l6 = true → l7 = false → OwnB w w0.heap.size v6 nb
  a7 : l7 = true → l12 = false → OwnB w w0.heap.size v7 (xs ++ nb)
  a11 : l11 = true → l12 = false → OwnB w w0.heap.size v11 vb
  d2 : l11 = true → l2 = true → l7 = false → disj v2 v11
  d7 : l11 = true → l7 = true → l12 = false → disj v7 v11
  a12 : l12 = true → OwnB w w0.heap.size v12 (xs ++ nb ++ vb)
  e7 : l7 = true → l2 = true ∧ l6 = true
  e12 : l12 = true → l7 = true ∧ l11 = true
section
variable {w0 w : World} {xs nb vb : List UInt8} {l2 l6 l7 l11 l12 : Bool} {v2 v6 v7 v11 v12 : Value}
theorem J95.start (h : Ext w0 w) : J95 w0 xs nb vb w false false false false false v2 v6 v7 v11 v12 :=
  ⟨h, fun e => (by cases e), fun e => (by cases e), fun e => (by cases e), fun e => (by cases e), fun e => (by cases e), fun e => (by cases e), fun e => (by cases e), fun e => (by cases e), fun e => (by cases e)⟩
theorem J95.ext {w' : World} (h : J95 w0 xs nb vb w l2 l6 l7 l11 l12 v2 v6 v7 v11 v12) (e : Ext w w') : J95 w0 xs nb vb w' l2 l6 l7 l11 l12 v2 v6 v7 v11 v12 :=
  ⟨h.x.trans e, fun p q => (h.a2 p q).ext e, fun p q => (h.a6 p q).ext e, fun p q => (h.a7 p q).ext e, fun p q => (h.a11 p q).ext e, h.d2, h.d7, fun p => (h.a12 p).ext e, h.e7, h.e12⟩
/-- The one byte is made. -/
theorem J95.put2 {w' : World} {v : Value} (h : J95 w0 xs nb vb w false l6 l7 l11 l12 v2 v6 v7 v11 v12) (e : Ext w w') (ho : OwnB w' w.heap.size v xs) : J95 w0 xs nb vb w' true l6 l7 l11 l12 v v6 v7 v11 v12 := by
  have h7 : l7 = false := by cases l7 with | false => rfl | true => have := (h.e7 rfl).1; cases this
  subst h7
  have h12 : l12 = false := by cases l12 with | false => rfl | true => have := (h.e12 rfl).1; cases this
  subst h12
  exact ⟨h.x.trans e, fun _ _ => ho.mono h.x.size, fun p q => (h.a6 p q).ext e, fun p => (by cases p), fun p q => (h.a11 p q).ext e, fun p _ _ => (disj.made (h.a11 p rfl) ho (Nat.le_refl _)).symm, fun _ p => (by cases p), fun p => (by cases p), fun p => (by cases p), fun p => (by cases p)⟩
/-- The first call's bytes are made. -/
theorem J95.put6 {w' : World} {v : Value} (h : J95 w0 xs nb vb w l2 false l7 l11 l12 v2 v6 v7 v11 v12) (e : Ext w w') (ho : OwnB w' w.heap.size v nb) : J95 w0 xs nb vb w' l2 true l7 l11 l12 v2 v v7 v11 v12 := by
  have h7 : l7 = false := by cases l7 with | false => rfl | true => have := (h.e7 rfl).2; cases this
  subst h7
  have h12 : l12 = false := by cases l12 with | false => rfl | true => have := (h.e12 rfl).1; cases this
  subst h12
  exact ⟨h.x.trans e, fun p q => (h.a2 p q).ext e, fun _ _ => ho.mono h.x.size, fun p => (by cases p), fun p q => (h.a11 p q).ext e, h.d2, fun _ p => (by cases p), fun p => (by cases p), fun p => (by cases p), fun p => (by cases p)⟩
/-- The second call's bytes are made. -/
theorem J95.put11 {w' : World} {v : Value} (h : J95 w0 xs nb vb w l2 l6 l7 false l12 v2 v6 v7 v11 v12) (e : Ext w w') (ho : OwnB w' w.heap.size v vb) : J95 w0 xs nb vb w' l2 l6 l7 true l12 v2 v6 v7 v v12 := by
  have h12 : l12 = false := by cases l12 with | false => rfl | true => have := (h.e12 rfl).2; cases this
  subst h12
  exact ⟨h.x.trans e, fun p q => (h.a2 p q).ext e, fun p q => (h.a6 p q).ext e, fun p q => (h.a7 p q).ext e, fun _ _ => ho.mono h.x.size, fun _ p q => disj.made (h.a2 p q) ho (Nat.le_refl _), fun _ p q => disj.made (h.a7 p q) ho (Nat.le_refl _), fun p => (by cases p), h.e7, fun p => (by cases p)⟩
/-- The first append. -/
theorem J95.app7 (h : J95 w0 xs nb vb w true true false l11 l12 v2 v6 v7 v11 v12) (hn : xs.length + nb.length ≤ 140737488355328) : ∃ v' w', (Builtin.append_ #[23, 23] 23 #[v2, v6]).run Try.prog w = .ok v' w' ∧ J95 w0 xs nb vb w' true true true l11 l12 v2 v6 v' v11 v12 := by
  have h12 : l12 = false := by cases l12 with | false => rfl | true => have := (h.e12 rfl).1; cases this
  subst h12
  have h6 := h.a6 rfl rfl
  obtain ⟨a, c, rfl⟩ := h6.slice
  obtain ⟨v', w', r1, r2, r3, r4⟩ := app_beside w w0.heap.size 23 v2 xs nb a c (h.a2 rfl rfl) h6.byts.1 hn h.x.size
  exact ⟨v', w', r1, r3 _ h.x (Nat.le_refl _), fun _ p => (by cases p), fun _ p => (by cases p), fun _ _ => r2, fun p _ => (r4 _ _ (h.a11 p rfl) (h.d2 p rfl rfl)).1, fun _ _ p => (by cases p), fun p _ _ => (r4 _ _ (h.a11 p rfl) (h.d2 p rfl rfl)).2, fun p => (by cases p), fun _ => ⟨rfl, rfl⟩, fun p => (by cases p)⟩
/-- The second append. -/
theorem J95.app12 (h : J95 w0 xs nb vb w l2 l6 true true false v2 v6 v7 v11 v12) (hn : xs.length + nb.length + vb.length ≤ 140737488355328) : ∃ v' w', (Builtin.append_ #[23, 23] 23 #[v7, v11]).run Try.prog w = .ok v' w' ∧ J95 w0 xs nb vb w' l2 l6 true true true v2 v6 v7 v11 v' := by
  have h11 := h.a11 rfl rfl
  obtain ⟨a, c, rfl⟩ := h11.slice
  obtain ⟨v', w', r1, r2, r3, r4⟩ := app_beside w w0.heap.size 23 v7 (xs ++ nb) vb a c (h.a7 rfl rfl) h11.byts.1 (by rw [List.length_append]; exact hn) h.x.size
  exact ⟨v', w', r1, r3 _ h.x (Nat.le_refl _), fun _ p => (by cases p), fun _ p => (by cases p), fun _ p => (by cases p), fun _ p => (by cases p), fun _ _ p => (by cases p), fun _ _ p => (by cases p), fun _ => r2, h.e7, fun _ => ⟨rfl, rfl⟩⟩
end
theorem own_lit1 (w : World) (z : UInt8) : OwnB (w.alloc (.cells #[.int .u8 ((z.toNat : Nat) : Int)] 5)) w.heap.size (.slice (some ⟨w.heap.size, 0, none⟩) 1 1) [z] :=
  .inr ⟨w.heap.size, 1, #[.int .u8 ((z.toNat : Nat) : Int)], (0, 0), rfl, Nat.le_refl _, heap_new _ _, by simp, by simp [maxLen], by simp, rfl, .inl rfl⟩
end Go.Proofs.Ytlahejakcgoheaa
end
section
/-
  Walks of the reference: sealKey.
-/
set_option linter.unusedVariables false
set_option linter.unusedSimpArgs false
namespace Go.Proofs.Ytlahejakcgoheaa
open Go.RowKit
set_option maxRecDepth 100000 in
set_option maxHeartbeats 4000000 in
theorem l95_law {bx un vn : Nat} {z : UInt8} {nu ve : Int} {nb vb : List UInt8} {w0 : World} (h0 : ∀ W, Ext w0 W → W.cell? ⟨bx, 0, none⟩ = some (.int .u8 ((z.toNat : Nat) : Int))) (h3 : ∀ W, Ext w0 W → W.cell? ⟨bx, 3, none⟩ = some (.int .i64 nu)) (h4 : ∀ W, Ext w0 W → W.cell? ⟨bx, 4, none⟩ = some (.int .i64 ve)) (HU : Hid (IntKind.u64.wrap nu = (un : Int))) (HV : Hid (IntKind.u64.wrap ve = (vn : Int))) (HNB : Hid (∀ W, Ext w0 W → Calls Try.prog 59 #[.int .u64 (un : Int), .int .i64 4] W (RetB nb W))) (HVB : Hid (∀ W, Ext w0 W → Calls Try.prog 59 #[.int .u64 (vn : Int), .int .i64 4] W (RetB vb W))) (hnl : nb.length ≤ 100) (hvl : vb.length ≤ 100) {Q : Exit → Act → World → Prop} (aZ : Act) (hsz : aZ.tmps.size = 30) (o3 : aZ.tmps[3]?.getD undef = .pointer (some ⟨bx, 0, none⟩))
    (hend : ∀ (vs : Nat → Value) (w9 : World) (ls9 : Nat → Bool), (∀ j : Nat, j < 14 → ls9 j = true) → (J95 w0 [z] nb vb w9 (ls9 2) (ls9 6) (ls9 7) (ls9 11) (ls9 12) (vs 2) (vs 6) (vs 7) (vs 11) (vs 12) ∧ (ls9 13 = true → ls9 12 = true ∧ vs 13 = vs 12)) → (vs 0 = .pointer (some ⟨bx, 0, none⟩)) → (vs 1 = .int .u8 ((z.toNat : Nat) : Int)) → (True) → (vs 3 = .pointer (some ⟨bx, 3, none⟩)) → (vs 4 = .int .i64 nu) → (vs 5 = .int .u64 (un : Int)) → (True) → (True) → (vs 8 = .pointer (some ⟨bx, 4, none⟩)) → (vs 9 = .int .i64 ve) → (vs 10 = .int .u64 (vn : Int)) → (True) → (True) → (True) → Q .normal ((((((((((((((aZ.put (some 6) (vs 0)).put (some 7) (vs 1)).put (some 8) (vs 2)).put (some 9) (vs 3)).put (some 10) (vs 4)).put (some 11) (vs 5)).put (some 12) (vs 6)).put (some 13) (vs 7)).put (some 14) (vs 8)).put (some 15) (vs 9)).put (some 16) (vs 10)).put (some 17) (vs 11)).put (some 18) (vs 12)).put (some 5) (vs 13)) w9) : (regOf Try.f95 1).wp Try.prog Q aZ w0 := by
  conv => arg 2; whnf
  refine wp_region_said3 (fun i v wz => match i with
    | 0 => v = .pointer (some ⟨bx, 0, none⟩)
    | 1 => v = .int .u8 ((z.toNat : Nat) : Int)
    | 2 => True
    | 3 => v = .pointer (some ⟨bx, 3, none⟩)
    | 4 => v = .int .i64 nu
    | 5 => v = .int .u64 (un : Int)
    | 6 => True
    | 7 => True
    | 8 => v = .pointer (some ⟨bx, 4, none⟩)
    | 9 => v = .int .i64 ve
    | 10 => v = .int .u64 (vn : Int)
    | 11 => True
    | 12 => True
    | _ => True) (fun ls vs wz => J95 w0 [z] nb vb wz (ls 2) (ls 6) (ls 7) (ls 11) (ls 12) (vs 2) (vs 6) (vs 7) (vs 11) (vs 12) ∧ (ls 13 = true → ls 12 = true ∧ vs 13 = vs 12)) (by kernel_rfl) (by kernel_rfl) (by rw [hsz]; kernel_rfl) ?_ ?_ ?_
  · exact ⟨J95.start (Ext.refl _).drew, fun e => (by cases e)⟩
  · refine ⟨?_, ?_, ?_, ?_, ?_, ?_, ?_, ?_, ?_, ?_, ?_, ?_, ?_, ?_, trivial⟩
    · intro ls vs a w1 hi hJ hold hdep K hK
      have q3 : a.tmps[3]?.getD undef = .pointer (some ⟨bx, 0, none⟩) := (hold 3 (by kernel_rfl)).trans o3
      rw [if_pos (by rfl)]
      clear hold hdep hend o3
      have HJ := Lib.hid hJ
      clear hJ
      go_simp
      exact hK _ _ (fun _ _ _ h => h) HJ.out rfl
    · intro ls vs a w1 hi hJ hold hdep K hK
      have q6 : a.tmps[6]?.getD undef = .pointer (some ⟨bx, 0, none⟩) := (hdep 0 6 (by kernel_rfl) (by kernel_rfl)).2.1.trans (hdep 0 6 (by kernel_rfl) (by kernel_rfl)).2.2
      rw [if_pos (by rfl)]
      clear hold hdep hend o3
      have HJ := Lib.hid hJ
      clear hJ
      have hz1 := HJ.out.1.x
      go_simp
      exact hK _ _ (fun _ _ _ h => h) HJ.out rfl
    · intro ls vs a w1 hi hJ hold hdep K hK
      have q7 : a.tmps[7]?.getD undef = .int .u8 ((z.toNat : Nat) : Int) := (hdep 1 7 (by kernel_rfl) (by kernel_rfl)).2.1.trans (hdep 1 7 (by kernel_rfl) (by kernel_rfl)).2.2
      rw [if_pos (by rfl)]
      clear hold hdep hend o3
      have HJ := Lib.hid hJ
      clear hJ
      go_simp
      obtain ⟨j1, j2⟩ := HJ.out
      have hi2 : ls 2 = false := hi
      rw [hi2] at j1
      exact hK _ _ (fun _ _ _ h => h) ⟨j1.put2 ((Ext.refl w1).alloc _) (own_lit1 w1 z), j2⟩ trivial
    · intro ls vs a w1 hi hJ hold hdep K hK
      have q3 : a.tmps[3]?.getD undef = .pointer (some ⟨bx, 0, none⟩) := (hold 3 (by kernel_rfl)).trans o3
      rw [if_pos (by rfl)]
      clear hold hdep hend o3
      have HJ := Lib.hid hJ
      clear hJ
      go_simp
      exact hK _ _ (fun _ _ _ h => h) HJ.out rfl
    · intro ls vs a w1 hi hJ hold hdep K hK
      have q9 : a.tmps[9]?.getD undef = .pointer (some ⟨bx, 3, none⟩) := (hdep 3 9 (by kernel_rfl) (by kernel_rfl)).2.1.trans (hdep 3 9 (by kernel_rfl) (by kernel_rfl)).2.2
      rw [if_pos (by rfl)]
      clear hold hdep hend o3
      have HJ := Lib.hid hJ
      clear hJ
      have hz1 := HJ.out.1.x
      go_simp
      exact hK _ _ (fun _ _ _ h => h) HJ.out rfl
    · intro ls vs a w1 hi hJ hold hdep K hK
      have q10 : a.tmps[10]?.getD undef = .int .i64 nu := (hdep 4 10 (by kernel_rfl) (by kernel_rfl)).2.1.trans (hdep 4 10 (by kernel_rfl) (by kernel_rfl)).2.2
      rw [if_pos (by rfl)]
      clear hold hdep hend o3
      have HJ := Lib.hid hJ
      clear hJ
      go_simp
      rw [HU.out]
      exact hK _ _ (fun _ _ _ h => h) HJ.out rfl
    · intro ls vs a w1 hi hJ hold hdep K hK
      have q11 : a.tmps[11]?.getD undef = .int .u64 (un : Int) := (hdep 5 11 (by kernel_rfl) (by kernel_rfl)).2.1.trans (hdep 5 11 (by kernel_rfl) (by kernel_rfl)).2.2
      rw [if_pos (by rfl)]
      clear hold hdep hend o3
      have HJ := Lib.hid hJ
      clear hJ
      go_simp
      obtain ⟨j1, j2⟩ := HJ.out
      have hi2 : ls 6 = false := hi
      rw [hi2] at j1
      go_at_call 59
      (with_reducible refine (HNB.out _ j1.x).mono ?_); rintro e w20 ⟨a', c', rfl, he, hb⟩
      exact hK _ _ (fun _ _ _ h => h) ⟨j1.put6 he hb, j2⟩ trivial
    · intro ls vs a w1 hi hJ hold hdep K hK
      obtain ⟨hl2, q8, p8⟩ := hdep 2 8 (by kernel_rfl) (by kernel_rfl)
      obtain ⟨hl6, q12, p12⟩ := hdep 6 12 (by kernel_rfl) (by kernel_rfl)
      clear hold hdep hend o3
      have HJ := Lib.hid hJ
      clear hJ
      obtain ⟨j1, j2⟩ := HJ.out
      have hi7 : ls 7 = false := hi
      rw [hl2, hl6, hi7] at j1
      obtain ⟨v', w', r1', r2'⟩ := j1.app7 (by simp; omega)
      refine step_app (by rfl) (.tmp 8) (.tmp 12) 23 (by rfl) _ _ (by simpa [Act.eval, Array.getD_eq_getD_getElem?] using q8) (by simpa [Act.eval, Array.getD_eq_getD_getElem?] using q12) (fun v3 w3 => v3 = v' ∧ w3 = w') ⟨_, _, r1', rfl, rfl⟩ ?_
      rintro v3 w3 ⟨rfl, rfl⟩
      refine hK _ _ (fun _ _ _ h => h) ⟨?_, j2⟩ trivial
      show J95 _ _ _ _ _ (ls 2) (ls 6) true (ls 11) (ls 12) (vs 2) (vs 6) v3 (vs 11) (vs 12)
      rw [hl2, hl6]; exact r2'
    · intro ls vs a w1 hi hJ hold hdep K hK
      have q3 : a.tmps[3]?.getD undef = .pointer (some ⟨bx, 0, none⟩) := (hold 3 (by kernel_rfl)).trans o3
      rw [if_pos (by rfl)]
      clear hold hdep hend o3
      have HJ := Lib.hid hJ
      clear hJ
      go_simp
      exact hK _ _ (fun _ _ _ h => h) HJ.out rfl
    · intro ls vs a w1 hi hJ hold hdep K hK
      have q14 : a.tmps[14]?.getD undef = .pointer (some ⟨bx, 4, none⟩) := (hdep 8 14 (by kernel_rfl) (by kernel_rfl)).2.1.trans (hdep 8 14 (by kernel_rfl) (by kernel_rfl)).2.2
      rw [if_pos (by rfl)]
      clear hold hdep hend o3
      have HJ := Lib.hid hJ
      clear hJ
      have hz1 := HJ.out.1.x
      go_simp
      exact hK _ _ (fun _ _ _ h => h) HJ.out rfl
    · intro ls vs a w1 hi hJ hold hdep K hK
      have q15 : a.tmps[15]?.getD undef = .int .i64 ve := (hdep 9 15 (by kernel_rfl) (by kernel_rfl)).2.1.trans (hdep 9 15 (by kernel_rfl) (by kernel_rfl)).2.2
      rw [if_pos (by rfl)]
      clear hold hdep hend o3
      have HJ := Lib.hid hJ
      clear hJ
      go_simp
      rw [HV.out]
      exact hK _ _ (fun _ _ _ h => h) HJ.out rfl
    · intro ls vs a w1 hi hJ hold hdep K hK
      have q16 : a.tmps[16]?.getD undef = .int .u64 (vn : Int) := (hdep 10 16 (by kernel_rfl) (by kernel_rfl)).2.1.trans (hdep 10 16 (by kernel_rfl) (by kernel_rfl)).2.2
      rw [if_pos (by rfl)]
      clear hold hdep hend o3
      have HJ := Lib.hid hJ
      clear hJ
      go_simp
      obtain ⟨j1, j2⟩ := HJ.out
      have hi2 : ls 11 = false := hi
      rw [hi2] at j1
      go_at_call 59
      (with_reducible refine (HVB.out _ j1.x).mono ?_); rintro e w20 ⟨a', c', rfl, he, hb⟩
      exact hK _ _ (fun _ _ _ h => h) ⟨j1.put11 he hb, j2⟩ trivial
    · intro ls vs a w1 hi hJ hold hdep K hK
      obtain ⟨hl7, q13, p13⟩ := hdep 7 13 (by kernel_rfl) (by kernel_rfl)
      obtain ⟨hl11, q17, p17⟩ := hdep 11 17 (by kernel_rfl) (by kernel_rfl)
      clear hold hdep hend o3
      have HJ := Lib.hid hJ
      clear hJ
      obtain ⟨j1, j2⟩ := HJ.out
      have hi12 : ls 12 = false := hi
      rw [hl7, hl11, hi12] at j1
      obtain ⟨v', w', r1', r2'⟩ := j1.app12 (by simp; omega)
      refine step_app (by rfl) (.tmp 13) (.tmp 17) 23 (by rfl) _ _ (by simpa [Act.eval, Array.getD_eq_getD_getElem?] using q13) (by simpa [Act.eval, Array.getD_eq_getD_getElem?] using q17) (fun v3 w3 => v3 = v' ∧ w3 = w') ⟨_, _, r1', rfl, rfl⟩ ?_
      rintro v3 w3 ⟨rfl, rfl⟩
      refine hK _ _ (fun _ _ _ h => h) ⟨?_, fun e => (by have := (j2 e).1; rw [hi12] at this; cases this)⟩ trivial
      show J95 _ _ _ _ _ (ls 2) (ls 6) (ls 7) (ls 11) true (vs 2) (vs 6) (vs 7) (vs 11) v3
      rw [hl7, hl11]; exact r2'
    · intro ls vs a w1 hi hJ hold hdep K hK
      obtain ⟨hl12, q18, p18⟩ := hdep 12 18 (by kernel_rfl) (by kernel_rfl)
      rw [if_pos (by rfl)]
      clear hold hdep hend o3
      have HJ := Lib.hid hJ
      clear hJ
      obtain ⟨j1, j2⟩ := HJ.out
      go_simp
      exact hK _ _ (fun _ _ _ h => h) ⟨j1, fun _ => ⟨hl12, rfl⟩⟩ trivial
  · intro vs w9 ls9 hl9 hJ9 hφ
    have e0 := hφ 0 (by kernel_rfl)
    have e1 := hφ 1 (by kernel_rfl)
    have e2 := hφ 2 (by kernel_rfl)
    have e3 := hφ 3 (by kernel_rfl)
    have e4 := hφ 4 (by kernel_rfl)
    have e5 := hφ 5 (by kernel_rfl)
    have e6 := hφ 6 (by kernel_rfl)
    have e7 := hφ 7 (by kernel_rfl)
    have e8 := hφ 8 (by kernel_rfl)
    have e9 := hφ 9 (by kernel_rfl)
    have e10 := hφ 10 (by kernel_rfl)
    have e11 := hφ 11 (by kernel_rfl)
    have e12 := hφ 12 (by kernel_rfl)
    have e13 := hφ 13 (by kernel_rfl)
    have hq := hend vs w9 ls9 hl9 hJ9 e0 e1 e2 e3 e4 e5 e6 e7 e8 e9 e10 e11 e12 e13
    simp only [Act.put] at hq
    simp only [putAll, Act.put]
    exact hq
set_option maxRecDepth 100000 in
set_option maxHeartbeats 4000000 in
theorem rsealKey_any (key : Nat) (x : Lv) (w : World) (ho : LkOk x.l) (hkb : x.l.ki.size ≤ 100000000000000) : Calls Try.prog 95 #[u64 key, lval x] w (Ret (u64 (sealK key x.l)) w) := by
  obtain ⟨z, hz⟩ : ∃ z : UInt8, z = UInt8.ofNat x.l.op := ⟨_, rfl⟩
  have hzo : z.toNat = x.l.op := by rw [hz, UInt8.toNat_ofNat']; exact Nat.mod_eq_of_lt ho.op
  have hsk : hbs (nh key) ([z] ++ numB (uw x.l.nu) 4 ++ numB (uw x.l.ve) 4) = sk0 key x.l := by
    rw [hbs_append, hbs_append, hbs_cons, hbs_nil, hzo]; rfl
  have HZO := Lib.hid hzo; have HSK := Lib.hid hsk; have HOK := Lib.hid ho
  have HNB : Hid (∀ W, Ext w W → Calls Try.prog 59 #[.int .u64 (uw x.l.nu : Int), .int .i64 4] W (RetB (numB (uw x.l.nu) 4) W)) := fun W e => rbytes_any _ 4 W (uw_lt _) (by omega)
  have HVB : Hid (∀ W, Ext w W → Calls Try.prog 59 #[.int .u64 (uw x.l.ve : Int), .int .i64 4] W (RetB (numB (uw x.l.ve) 4) W)) := fun W e => rbytes_any _ 4 W (uw_lt _) (by omega)
  have HU : Hid (IntKind.u64.wrap x.l.nu = (uw x.l.nu : Int)) := wrap_uw _
  have HV : Hid (IntKind.u64.wrap x.l.ve = (uw x.l.ve : Int)) := wrap_uw _
  have hnl : (numB (uw x.l.nu) 4).length ≤ 100 := by rw [numB_len]; omega
  have hvl : (numB (uw x.l.ve) 4).length ≤ 100 := by rw [numB_len]; omega
  clear hz hzo hsk ho
  go_enter Try.func95, Try.ntmps95
  go_upto_region 1 with fail
  generalize hw1 : World.alloc _ _ = w0
  obtain ⟨he, o1, -⟩ := alloc1 hw1
  obtain ⟨h0, d1, d2, h3, h4, d5, d6, d7, d8, d9⟩ := obj_cells10 o1
  rw [← HZO.out] at h0
  have HO1 := Lib.hid o1; have HE := Lib.hid he
  clear hw1 o1 d1 d5 d6 d7 d8 d9
  have HNB : Hid (∀ W, Ext w0 W → Calls Try.prog 59 #[.int .u64 (uw x.l.nu : Int), .int .i64 4] W (RetB (numB (uw x.l.nu) 4) W)) := fun W e => HNB.out W (HE.out.trans e)
  have HVB : Hid (∀ W, Ext w0 W → Calls Try.prog 59 #[.int .u64 (uw x.l.ve : Int), .int .i64 4] W (RetB (numB (uw x.l.ve) 4) W)) := fun W e => HVB.out W (HE.out.trans e)
  refine l95_law h0 h3 h4 HU HV HNB HVB hnl hvl _ (by rfl) rfl ?_
  intro vs w9 ls9 hl9 hJ9 e0 e1 e2 e3 e4 e5 e6 e7 e8 e9 e10 e11 e12 e13
  simp only [Act.put, List.setIfInBounds_toArray, List.set_cons_zero, List.set_cons_succ]
  rw [e0, e1, e3, e4, e5, e8, e9, e10]
  obtain ⟨hj1, hj2⟩ := hJ9
  have hown := hj1.a12 (hl9 12 (by omega))
  rw [(hj2 (hl9 13 (by omega))).2]
  obtain ⟨pre, hpre⟩ : ∃ pre, pre = [z] ++ numB (uw x.l.nu) 4 ++ numB (uw x.l.ve) 4 := ⟨_, rfl⟩
  have hpl : pre.length = 9 := by rw [hpre]; simp [numB_len]
  have hsk := HSK.out
  rw [← hpre] at hown hsk
  have HSK2 := Lib.hid hsk
  obtain ⟨a5, c5, h12⟩ := hown.slice
  rw [h12] at hown ⊢
  rw [hpl] at hown ⊢
  have HX := Lib.hid hj1.x; have HOWN := Lib.hid hown; have HPL := Lib.hid hpl
  have c0 := fun W (e : Ext w9 W) => h0 W (HX.out.trans e)
  have c2 := fun W (e : Ext w9 W) => d2 W (HX.out.trans e)
  rw [HZO.out] at c0
  have E9 := Ext.refl w9
  clear h0 d2 h3 h4 hj1 hj2 hown hpre hsk h12 e0 e1 e3 e4 e5 e8 e9 e10 hl9 HNB HVB hpl
  cases T1 : ((x.l.op : Int) == 5)
  · have hs : Hid (sealK key x.l = sk0 key x.l) := by
      have : ¬ x.l.op = 5 := by simp at T1; omega
      simp [Hid, sealK, this]
    have hdg : Calls Try.prog 15 #[u64 key, .slice a5 9 c5] w9 (Ret (u64 (sk0 key x.l)) w9) := by
      have := rdigest_any key a5 pre c5 w9 HOWN.out.byts.1 (by rw [HPL.out]; omega)
      rw [HPL.out, HSK2.out] at this; exact this
    have HDG := Lib.hid hdg
    clear hdg
    go_wp2_with (fail)
    (with_reducible refine HDG.out.mono ?_); rintro e w10 ⟨rfl, he10⟩
    go_wp2_with (fail)
    go_ret
    exact ⟨by rw [hs.out]; rfl, (HE.out.trans HX.out).trans he10⟩
  · have hs : Hid (sealK key x.l = hbs (sk0 key x.l) x.l.ki.data.toList) := by
      have : x.l.op = 5 := by simp at T1; omega
      simp [Hid, sealK, this]
    obtain ⟨e1, o1, z1⟩ := bytesW_facts w9 x.l.ki HOK.out.ki
    have hki : x.l.ki.size ≤ 9223372036854775807 := by have := HOK.out.ki; unfold maxLen at this; omega
    by_cases hbig : x.l.ki.size ≤ 100000000000000
    · have hap := app_bytes (bytesW w9 x.l.ki) w0.heap.size 23 (.slice a5 9 c5) pre x.l.ki.data.toList (some ⟨w9.heap.size, 0, none⟩) (bytesC w9 x.l.ki) (HOWN.out.ext e1) o1.byts.1 (by rw [HPL.out]; simp; omega) (by have := e1.size; have := HX.out.size; omega)
      rw [len_data] at hap
      have HAPP := Lib.hid hap; have HE1 := Lib.hid (HX.out.trans e1); have HLT := Lib.hid (HOWN.out.ext e1).lt
      clear hap e1 o1 z1
      go_wp2_with (first | (at_builtin; refine wpList_app _ rfl _ _ 23 rfl _ HAPP.out ?_; clear HAPP; rintro v' w10 ⟨ho5, hg5, -⟩; have he10 := grown_ext HE1.out hg5 (fun k hk => (HLT.out k hk).1); obtain ⟨a6, c6, rfl⟩ := ho5.slice; have hdg := rdigest_any key a6 (pre ++ x.l.ki.data.toList) c6 w10 ho5.byts.1 (by rw [List.length_append, HPL.out]; simp; omega); rw [hbs_append, HSK2.out] at hdg; obtain ⟨m2, hm2⟩ : ∃ m, m = (pre ++ x.l.ki.data.toList).length := ⟨_, rfl⟩; rw [← hm2] at hdg ⊢; have HDG := Lib.hid hdg; have HE10 := Lib.hid he10; clear hdg he10 ho5 hg5 hm2) | fail)
      (with_reducible refine HDG.out.mono ?_); rintro e w11 ⟨rfl, he11⟩
      go_wp2_with (fail)
      go_ret
      exact ⟨by rw [hs.out]; rfl, (HE.out.trans HE10.out).trans he11⟩
    · exact absurd hkb hbig
end Go.Proofs.Ytlahejakcgoheaa
end
