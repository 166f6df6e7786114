/-
  Walk: the law VaultNothing.
-/
import Derived.Test.YtlahejakcgoheaaTB
set_option linter.unusedVariables false
set_option linter.unusedSimpArgs false
namespace Go.Proofs.Ytlahejakcgoheaa
open Go.RowKit
theorem Ops.one {w : World} {b : Nat} {o : Op} (h : w.heap[b]? = some (.cells (opcells o) 47 (0, 0))) (ho : OpOk o) : Ops w (some ⟨b, 0, none⟩) [o] := by
  obtain ⟨c0, c1, c2, c3, c4, c5, c6, c7, c8⟩ := obj_cells9 h
  refine ⟨.inr ⟨b, 0, rfl, fun i hi => ?_⟩, fun i hi => ?_⟩
  · obtain rfl : i = 0 := by simp at hi; omega
    exact ⟨c0 w (Ext.refl _), c1 w (Ext.refl _), c2 w (Ext.refl _), c3 w (Ext.refl _), c4 w (Ext.refl _), c5 w (Ext.refl _), c6 w (Ext.refl _), c7 w (Ext.refl _), c8 w (Ext.refl _)⟩
  · obtain rfl : i = 0 := by simp at hi; omega
    exact ho
set_option maxRecDepth 100000 in
set_option maxHeartbeats 4000000 in
theorem nothing_any (o : Op) (w : World) (ho : OpOk o) : Calls Try.prog 7 #[opval o] w (Ret (.bool true) w) := by
  have HO := Lib.hid ho
  clear ho
  go_enter Try.func7, Try.ntmps7
  go_upto_region 1 with fail
  generalize hw1 : World.alloc _ _ = w1
  obtain ⟨he, o1, -⟩ := alloc1 hw1
  have HO1 := Lib.hid o1
  obtain ⟨c0, c1, c2, c3, c4, c5, c6, c7, c8⟩ := obj_cells9 o1
  clear hw1 o1
  have E1 := Ext.refl w1
  go_wp2_with fail
  generalize hw2 : World.alloc _ _ = w2
  obtain ⟨he2, o2, -⟩ := alloc1 hw2
  have hwd := wide_any (some ⟨w1.heap.size, 0, none⟩) [o] 1 w2 (Ops.one o2 HO.out) (by simp)
  obtain ⟨q, hq⟩ : ∃ q, q = wideB [o] := ⟨_, rfl⟩
  rw [← hq, show ([o] : List Op).length = 1 from rfl] at hwd
  have HWD := Lib.hid hwd
  have he12 := he.trans he2
  have hblk := he2.block HO1.out
  have HB := Lib.hid hblk
  clear hw2 o2 hwd hq c0 c1 c2 c3 c4 c5 c6 c7 c8 hblk he2 E1
  (with_reducible refine HWD.out.mono ?_); rintro e w3 ⟨rfl, he3⟩
  have he13 := he12.trans he3
  have HB3 := Lib.hid (he3.block HB.out)
  clear HB HWD
  cases q
  · go_wp2_with (fail)
    go_loopw [4] (fun i wr => ∃ k : Nat, 1 ≤ k ∧ k ≤ 9 ∧ i = .int .i64 k ∧ Hid (∃ kk : Int, wr.heap[w.heap.size]? = some (.cells #[.int .i64 kk, .string o.name, .string o.pass, .string o.label, .string o.other, .string o.text, .int .i64 o.day, .int .i64 o.num, .int .i64 o.ver] 47 (0, 0))) ∧ Hid (Ext w wr)) (fun i _ => 9 - (intOf i).toNat)
    case atStart => exact ⟨1, by omega, by omega, rfl, ⟨_, HB3.out⟩, he13⟩
    case round =>
      obtain ⟨k, hk1, hk9, rfl, hb, he⟩ := hrel
      by_cases hlt : k ≤ 8
      · obtain ⟨kk, hbk⟩ := hb.out
        have fr := obj_free hbk
        obtain ⟨d0, -⟩ := obj_cells9 hbk
        have hst := block_set hbk 0 (.int .i64 (k : Int))
        have hx := he.out.set (p := ⟨w.heap.size, 0, none⟩) (Nat.le_refl _) (.int .i64 (k : Int))
        have HST := Lib.hid hst; have HX := Lib.hid hx
        have E0 := Ext.refl wr
        clear hb hbk hst hx
        go_upto_region 8 with fail
        clear fr E0 d0
        generalize World.setCell wr _ _ = w4 at *
        have hst : w4.heap[w.heap.size]? = some (.cells #[.int .i64 (k : Int), .string o.name, .string o.pass, .string o.label, .string o.other, .string o.text, .int .i64 o.day, .int .i64 o.num, .int .i64 o.ver] 47 (0, 0)) := HST.out
        obtain ⟨c0, c1, c2, c3, c4, c5, c6, c7, c8⟩ := obj_cells9 hst
        have HS := Lib.hid hst
        have hpl : ∀ W, Calls Try.prog 22 #[.pointer none, .agg #[.int .i64 (k : Int), .string o.name, .string o.pass, .string o.label, .string o.other, .string o.text, .int .i64 o.day, .int .i64 o.num, .int .i64 o.ver]] W (Ret (.agg #[.int .i64 0, .string ⟨#[]⟩, .slice none 0 0, .int .i64 1]) W) := fun W => by
          have := play_nil ⟨k, o.name, o.pass, o.label, o.other, o.text, o.day, o.num, o.ver⟩ W
          rw [show nilR ⟨k, o.name, o.pass, o.label, o.other, o.text, o.day, o.num, o.ver⟩ = ⟨0, ⟨#[]⟩, [], 1⟩ by unfold nilR; rw [if_pos ⟨by simp; omega, by simp; omega⟩]] at this
          exact this
        have hsm : ∀ W, Calls Try.prog 24 #[.agg #[.int .i64 0, .string ⟨#[]⟩, .slice none 0 0, .int .i64 1], .agg #[.int .i64 0, .string ⟨#[]⟩, .slice none 0 0, .int .i64 1]] W (Ret (.bool true) W) := fun W => same_any ⟨0, ⟨#[]⟩, [], 1⟩ none none 0 0 W (.inl rfl) (.inl rfl) (by simp)
        have HPL := Lib.hid hpl; have HSM := Lib.hid hsm
        have E4 := Ext.refl w4
        clear hst hpl hsm HST
        go_wp2_with (fail)
        (with_reducible refine (HPL.out _).mono ?_); rintro e w5 ⟨rfl, he5⟩
        have hb5 := Lib.hid (he5.block HS.out)
        have hx5 := Lib.hid (HX.out.trans he5)
        clear c0 c1 c2 c3 c4 c5 c6 c7 c8 E4
        go_wp2_with (fail)
        (with_reducible refine (HSM.out _).mono ?_); rintro e w6 ⟨rfl, he6⟩
        have hb6 := he6.block hb5.out
        have hx6 := Lib.hid (hx5.out.trans he6)
        have HB6 := Lib.hid hb6
        clear hb6
        go_wp2_with (fail)
        go_roundw
        case rel => exact ⟨k + 1, by omega, by omega, by go_num, ⟨_, HB6.out⟩, hx6⟩
        case measure => simp [intOf]; omega
      · obtain rfl : k = 9 := by omega
        go_wp2_with (fail)
        (with_reducible refine (day_nil _).mono ?_); rintro e w5 ⟨rfl, he5⟩
        go_wp2_with (fail)
        (with_reducible refine (dump_nil _).mono ?_); rintro e w6 ⟨a, c, xs, rfl, he6, hxs, -⟩
        have hl0 : xs.length = 0 := by rw [← lks_len, hxs]; rfl
        rw [hl0]
        clear hxs hl0
        have hx6 := (he.out.trans he5).trans he6
        clear he5 he6
        go_wp2_with (fail)
        (with_reducible refine (known_any _).mono ?_); rintro e w7 ⟨rfl, he7⟩
        go_wp2_with (fail)
        go_ret
        exact ⟨rfl, hx6.trans he7⟩
  · go_wp2_with (fail)
    (with_reducible refine (known_any _).mono ?_); rintro e w4 ⟨rfl, he4⟩
    go_wp2_with (fail)
    go_ret
    exact ⟨rfl, he13.trans he4⟩
end Go.Proofs.Ytlahejakcgoheaa
