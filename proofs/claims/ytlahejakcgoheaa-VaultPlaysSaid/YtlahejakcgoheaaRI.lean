/-
  Walks of the reference: plain.
-/
import Derived.Test.YtlahejakcgoheaaRH
set_option linter.unusedVariables false
set_option linter.unusedSimpArgs false
namespace Go.Proofs.Ytlahejakcgoheaa
open Go.RowKit
set_option maxRecDepth 100000 in
set_option maxHeartbeats 4000000 in
theorem rplain_any (x : Lv) (w : World) : Calls Try.prog 88 #[lval x] w (Ret (.bool (plainB x.l)) w) := by
  have ik := isEmpty_eq x.l.ki
  have ic := isEmpty_eq x.l.cu
  obtain ⟨q, hq⟩ : ∃ q, q = plainB x.l := ⟨_, rfl⟩
  rw [← hq]
  have HQ := Lib.hid hq
  clear hq
  obtain ⟨L, hL⟩ : ∃ L, L = x.l.bo.length := ⟨_, rfl⟩
  have HL := Lib.hid hL
  clear hL
  cases O1 : ((x.l.op : Int) == 1)
  · cases O2 : ((x.l.op : Int) == 2)
    · cases O3 : ((x.l.op : Int) == 3)
      · cases O4 : ((x.l.op : Int) == 4)
        · cases O5 : ((x.l.op : Int) == 5)
          · have HP := Lib.hid (plainB_0 x.l (by simp at O1; omega) (by simp at O2; omega) (by simp at O3; omega) (by simp at O4; omega) (by simp at O5; omega))
            go_enter Try.func88, Try.ntmps88
            go_upto_region 1 with fail
            generalize hw1 : World.alloc _ _ = w1
            obtain ⟨he, o1, -⟩ := alloc1 hw1
            obtain ⟨d0, d1, d2, d3, d4, d5, d6, d7, d8, d9⟩ := obj_cells10 o1
            clear hw1 o1
            have E1 := Ext.refl w1
            go_wp2_with (fail)
            go_ret
            refine ⟨?_, he⟩
            rw [HQ.out, HP.out]
            rfl
          · have HP := Lib.hid (plainB_5 x.l (by simp at O5; omega))
            cases U : (x.l.un == 0)
            · skip
              go_enter Try.func88, Try.ntmps88
              go_upto_region 1 with fail
              generalize hw1 : World.alloc _ _ = w1
              obtain ⟨he, o1, -⟩ := alloc1 hw1
              obtain ⟨d0, d1, d2, d3, d4, d5, d6, d7, d8, d9⟩ := obj_cells10 o1
              clear hw1 o1
              have E1 := Ext.refl w1
              go_wp2_with (fail)
              go_ret
              refine ⟨?_, he⟩
              rw [HQ.out, HP.out]
              exact ret_bool (by simp [U])
            · skip
              go_enter Try.func88, Try.ntmps88
              go_upto_region 1 with fail
              generalize hw1 : World.alloc _ _ = w1
              obtain ⟨he, o1, -⟩ := alloc1 hw1
              obtain ⟨d0, d1, d2, d3, d4, d5, d6, d7, d8, d9⟩ := obj_cells10 o1
              clear hw1 o1
              have E1 := Ext.refl w1
              go_wp2_with (fail)
              go_ret
              refine ⟨?_, he⟩
              rw [HQ.out, HP.out]
              exact ret_bool (by simp [U])
        · have HP := Lib.hid (plainB_4 x.l (by simp at O4; omega))
          cases K : (x.l.ki.size == 0)
          · have eK := empty_no K
            go_enter Try.func88, Try.ntmps88
            go_upto_region 1 with fail
            generalize hw1 : World.alloc _ _ = w1
            obtain ⟨he, o1, -⟩ := alloc1 hw1
            obtain ⟨d0, d1, d2, d3, d4, d5, d6, d7, d8, d9⟩ := obj_cells10 o1
            clear hw1 o1
            have E1 := Ext.refl w1
            go_wp2_with (fail)
            go_ret
            refine ⟨?_, he⟩
            rw [HQ.out, HP.out]
            exact ret_bool (by simp [K])
          · have eK := empty_yes K
            cases U : (x.l.un == 0)
            · skip
              go_enter Try.func88, Try.ntmps88
              go_upto_region 1 with fail
              generalize hw1 : World.alloc _ _ = w1
              obtain ⟨he, o1, -⟩ := alloc1 hw1
              obtain ⟨d0, d1, d2, d3, d4, d5, d6, d7, d8, d9⟩ := obj_cells10 o1
              clear hw1 o1
              have E1 := Ext.refl w1
              go_wp2_with (fail)
              go_ret
              refine ⟨?_, he⟩
              rw [HQ.out, HP.out]
              exact ret_bool (by simp [K, U])
            · skip
              go_enter Try.func88, Try.ntmps88
              go_upto_region 1 with fail
              generalize hw1 : World.alloc _ _ = w1
              obtain ⟨he, o1, -⟩ := alloc1 hw1
              obtain ⟨d0, d1, d2, d3, d4, d5, d6, d7, d8, d9⟩ := obj_cells10 o1
              clear hw1 o1
              have E1 := Ext.refl w1
              go_wp2_with (fail)
              go_ret
              refine ⟨?_, he⟩
              rw [HQ.out, HP.out]
              exact ret_bool (by simp [K, U])
      · have HP := Lib.hid (plainB_3 x.l (by simp at O3; omega))
        go_enter Try.func88, Try.ntmps88
        go_upto_region 1 with fail
        generalize hw1 : World.alloc _ _ = w1
        obtain ⟨he, o1, -⟩ := alloc1 hw1
        obtain ⟨d0, d1, d2, d3, d4, d5, d6, d7, d8, d9⟩ := obj_cells10 o1
        clear hw1 o1
        have E1 := Ext.refl w1
        go_wp2_with (fail)
        go_ret
        refine ⟨?_, he⟩
        rw [HQ.out, HP.out]
        rfl
    · have HP := Lib.hid (plainB_2 x.l (by simp at O2; omega))
      cases C : (x.l.cu.size == 0)
      · have eC := empty_no C
        go_enter Try.func88, Try.ntmps88
        go_upto_region 1 with fail
        generalize hw1 : World.alloc _ _ = w1
        obtain ⟨he, o1, -⟩ := alloc1 hw1
        obtain ⟨d0, d1, d2, d3, d4, d5, d6, d7, d8, d9⟩ := obj_cells10 o1
        clear hw1 o1
        have E1 := Ext.refl w1
        go_wp2_with (fail)
        go_ret
        refine ⟨?_, he⟩
        rw [HQ.out, HP.out]
        exact ret_bool (by simp [C])
      · have eC := empty_yes C
        cases K : (x.l.ki.size == 0)
        · have eK := empty_no K
          go_enter Try.func88, Try.ntmps88
          go_upto_region 1 with fail
          generalize hw1 : World.alloc _ _ = w1
          obtain ⟨he, o1, -⟩ := alloc1 hw1
          obtain ⟨d0, d1, d2, d3, d4, d5, d6, d7, d8, d9⟩ := obj_cells10 o1
          clear hw1 o1
          have E1 := Ext.refl w1
          go_wp2_with (fail)
          go_ret
          refine ⟨?_, he⟩
          rw [HQ.out, HP.out]
          exact ret_bool (by simp [C, K])
        · have eK := empty_yes K
          cases N : (x.l.nu == 0)
          · skip
            go_enter Try.func88, Try.ntmps88
            go_upto_region 1 with fail
            generalize hw1 : World.alloc _ _ = w1
            obtain ⟨he, o1, -⟩ := alloc1 hw1
            obtain ⟨d0, d1, d2, d3, d4, d5, d6, d7, d8, d9⟩ := obj_cells10 o1
            clear hw1 o1
            have E1 := Ext.refl w1
            go_wp2_with (fail)
            go_ret
            refine ⟨?_, he⟩
            rw [HQ.out, HP.out]
            exact ret_bool (by simp [C, K, N])
          · skip
            cases V : (x.l.ve == 0)
            · skip
              go_enter Try.func88, Try.ntmps88
              go_upto_region 1 with fail
              generalize hw1 : World.alloc _ _ = w1
              obtain ⟨he, o1, -⟩ := alloc1 hw1
              obtain ⟨d0, d1, d2, d3, d4, d5, d6, d7, d8, d9⟩ := obj_cells10 o1
              clear hw1 o1
              have E1 := Ext.refl w1
              go_wp2_with (fail)
              go_ret
              refine ⟨?_, he⟩
              rw [HQ.out, HP.out]
              exact ret_bool (by simp [C, K, N, V])
            · skip
              cases U : (x.l.un == 0)
              · skip
                go_enter Try.func88, Try.ntmps88
                go_upto_region 1 with fail
                generalize hw1 : World.alloc _ _ = w1
                obtain ⟨he, o1, -⟩ := alloc1 hw1
                obtain ⟨d0, d1, d2, d3, d4, d5, d6, d7, d8, d9⟩ := obj_cells10 o1
                clear hw1 o1
                have E1 := Ext.refl w1
                go_wp2_with (fail)
                go_ret
                refine ⟨?_, he⟩
                rw [HQ.out, HP.out]
                exact ret_bool (by simp [C, K, N, V, U])
              · skip
                cases B : ((x.l.bo.length : Int) == 0)
                · skip
                  go_enter Try.func88, Try.ntmps88
                  go_upto_region 1 with fail
                  generalize hw1 : World.alloc _ _ = w1
                  obtain ⟨he, o1, -⟩ := alloc1 hw1
                  obtain ⟨d0, d1, d2, d3, d4, d5, d6, d7, d8, d9⟩ := obj_cells10 o1
                  clear hw1 o1
                  have E1 := Ext.refl w1
                  go_wp2_with (fail)
                  go_ret
                  refine ⟨?_, he⟩
                  rw [HQ.out, HP.out]
                  exact ret_bool (by simp [C, K, N, V, U, B])
                · skip
                  cases T : ((x.l.tag : Int) == 0)
                  · skip
                    go_enter Try.func88, Try.ntmps88
                    go_upto_region 1 with fail
                    generalize hw1 : World.alloc _ _ = w1
                    obtain ⟨he, o1, -⟩ := alloc1 hw1
                    obtain ⟨d0, d1, d2, d3, d4, d5, d6, d7, d8, d9⟩ := obj_cells10 o1
                    clear hw1 o1
                    have E1 := Ext.refl w1
                    go_wp2_with (fail)
                    go_ret
                    refine ⟨?_, he⟩
                    rw [HQ.out, HP.out]
                    exact ret_bool (by simp [C, K, N, V, U, B, T])
                  · skip
                    go_enter Try.func88, Try.ntmps88
                    go_upto_region 1 with fail
                    generalize hw1 : World.alloc _ _ = w1
                    obtain ⟨he, o1, -⟩ := alloc1 hw1
                    obtain ⟨d0, d1, d2, d3, d4, d5, d6, d7, d8, d9⟩ := obj_cells10 o1
                    clear hw1 o1
                    have E1 := Ext.refl w1
                    go_wp2_with (fail)
                    go_ret
                    refine ⟨?_, he⟩
                    rw [HQ.out, HP.out]
                    exact ret_bool (by simp [C, K, N, V, U, B, T])
  · have HP := Lib.hid (plainB_1 x.l (by simp at O1; omega))
    cases K : (x.l.ki.size == 0)
    · have eK := empty_no K
      go_enter Try.func88, Try.ntmps88
      go_upto_region 1 with fail
      generalize hw1 : World.alloc _ _ = w1
      obtain ⟨he, o1, -⟩ := alloc1 hw1
      obtain ⟨d0, d1, d2, d3, d4, d5, d6, d7, d8, d9⟩ := obj_cells10 o1
      clear hw1 o1
      have E1 := Ext.refl w1
      go_wp2_with (fail)
      go_ret
      refine ⟨?_, he⟩
      rw [HQ.out, HP.out]
      exact ret_bool (by simp [K])
    · have eK := empty_yes K
      cases N : (x.l.nu == 0)
      · skip
        go_enter Try.func88, Try.ntmps88
        go_upto_region 1 with fail
        generalize hw1 : World.alloc _ _ = w1
        obtain ⟨he, o1, -⟩ := alloc1 hw1
        obtain ⟨d0, d1, d2, d3, d4, d5, d6, d7, d8, d9⟩ := obj_cells10 o1
        clear hw1 o1
        have E1 := Ext.refl w1
        go_wp2_with (fail)
        go_ret
        refine ⟨?_, he⟩
        rw [HQ.out, HP.out]
        exact ret_bool (by simp [K, N])
      · skip
        cases V : (x.l.ve == 0)
        · skip
          go_enter Try.func88, Try.ntmps88
          go_upto_region 1 with fail
          generalize hw1 : World.alloc _ _ = w1
          obtain ⟨he, o1, -⟩ := alloc1 hw1
          obtain ⟨d0, d1, d2, d3, d4, d5, d6, d7, d8, d9⟩ := obj_cells10 o1
          clear hw1 o1
          have E1 := Ext.refl w1
          go_wp2_with (fail)
          go_ret
          refine ⟨?_, he⟩
          rw [HQ.out, HP.out]
          exact ret_bool (by simp [K, N, V])
        · skip
          cases D : (x.l.da == 0)
          · skip
            go_enter Try.func88, Try.ntmps88
            go_upto_region 1 with fail
            generalize hw1 : World.alloc _ _ = w1
            obtain ⟨he, o1, -⟩ := alloc1 hw1
            obtain ⟨d0, d1, d2, d3, d4, d5, d6, d7, d8, d9⟩ := obj_cells10 o1
            clear hw1 o1
            have E1 := Ext.refl w1
            go_wp2_with (fail)
            go_ret
            refine ⟨?_, he⟩
            rw [HQ.out, HP.out]
            exact ret_bool (by simp [K, N, V, D])
          · skip
            cases U : (x.l.un == 0)
            · skip
              go_enter Try.func88, Try.ntmps88
              go_upto_region 1 with fail
              generalize hw1 : World.alloc _ _ = w1
              obtain ⟨he, o1, -⟩ := alloc1 hw1
              obtain ⟨d0, d1, d2, d3, d4, d5, d6, d7, d8, d9⟩ := obj_cells10 o1
              clear hw1 o1
              have E1 := Ext.refl w1
              go_wp2_with (fail)
              go_ret
              refine ⟨?_, he⟩
              rw [HQ.out, HP.out]
              exact ret_bool (by simp [K, N, V, D, U])
            · skip
              cases B : ((x.l.bo.length : Int) == 0)
              · skip
                go_enter Try.func88, Try.ntmps88
                go_upto_region 1 with fail
                generalize hw1 : World.alloc _ _ = w1
                obtain ⟨he, o1, -⟩ := alloc1 hw1
                obtain ⟨d0, d1, d2, d3, d4, d5, d6, d7, d8, d9⟩ := obj_cells10 o1
                clear hw1 o1
                have E1 := Ext.refl w1
                go_wp2_with (fail)
                go_ret
                refine ⟨?_, he⟩
                rw [HQ.out, HP.out]
                exact ret_bool (by simp [K, N, V, D, U, B])
              · skip
                go_enter Try.func88, Try.ntmps88
                go_upto_region 1 with fail
                generalize hw1 : World.alloc _ _ = w1
                obtain ⟨he, o1, -⟩ := alloc1 hw1
                obtain ⟨d0, d1, d2, d3, d4, d5, d6, d7, d8, d9⟩ := obj_cells10 o1
                clear hw1 o1
                have E1 := Ext.refl w1
                go_wp2_with (fail)
                go_ret
                refine ⟨?_, he⟩
                rw [HQ.out, HP.out]
                exact ret_bool (by simp [K, N, V, D, U, B])
end Go.Proofs.Ytlahejakcgoheaa
