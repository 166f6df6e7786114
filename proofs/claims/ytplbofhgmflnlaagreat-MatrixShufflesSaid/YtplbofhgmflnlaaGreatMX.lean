/-
  Walks: products.
-/
import Derived.Test.YtplbofhgmflnlaaGreatPW
import Derived.Test.YtplbofhgmflnlaaGreatMW
set_option linter.unusedVariables false
set_option linter.unusedSimpArgs false
namespace Go.Proofs.YtplbofhgmflnlaaGreat
open Go.RowKit Go.Maps
theorem key59 {x : Nat} (h : x < 65536) : ∃ l, keyOf Tryz.prog 59 (.int .u16 (x : Int)) = some l :=
  ⟨_, keyOf_int_mk Tryz.underlying59 (by simp [Lit.wf, IntKind.min, IntKind.max, IntKind.signed, IntKind.bits]; omega)⟩
theorem zero75 (w : World) : (zeroValue 75).run Tryz.prog w = .ok (.agg #[.int .u16 0, .bool false]) w := by kernel_rfl
/-- What products answers. -/
def RetProd (ws : List Wd) (w : World) (e : Ending) (w' : World) : Prop := Ext w w' ∧ ((clashW ws = true ∧ e = .returned (.tuple #[.map none, .int .i64 60])) ∨
  ∃ b xs, e = .returned (.tuple #[.map (some b), .int .i64 0]) ∧ w.heap.size ≤ b ∧ MapAt 59 w' b (xs.map entW) ∧ Spans ws xs)
theorem ent_mem {xs : List Wd} {x : Wd} (h : x ∈ xs) : (Value.int .u16 (x.mask : Int), wdV x) ∈ xs.map entW := List.mem_map.2 ⟨x, h, rfl⟩
theorem ent_ne {xs : List Wd} {k : Nat} (h : ∀ x ∈ xs, x.mask ≠ k) : ∀ p ∈ xs.map entW, p.1 ≠ Value.int .u16 (k : Int) := by
  intro p hp e
  obtain ⟨x, hx, rfl⟩ := List.mem_map.1 hp
  simp only [entW, Value.int.injEq, true_and] at e
  exact h x hx (by omega)
theorem ent_len (xs : List Wd) : (xs.map entW).length = xs.length := List.length_map _
theorem one_map (w : World) : ∃ w1, (Instr.mapUpdate 179 (.map (some w.heap.size)) (.int .u16 0) (.agg #[.int .u16 0, .bool false])).run Tryz.prog (w.alloc (.map #[] 0)) = .ok () w1 ∧ MapAt 59 w1 w.heap.size ([oneW].map entW) ∧ Ext w w1 := by
  obtain ⟨w1, h1, h2, h3⟩ := (MapAt.made 59 w).store_new keyed59 Tryz.underlying179 (key := .int .u16 ((0 : Nat) : Int)) (val := wdV oneW) (key59 (by omega)) (by simp) (by simp [maxLen])
  exact ⟨w1, h1, h2, ((Ext.refl w).alloc _).turned h3 (Nat.le_refl _)⟩
theorem wd_mem {ws : List Wd} {k : Nat} (hk : k < ws.length) : wth ws k ∈ ws := by rw [wth_eq _ _ hk]; exact List.getElem_mem hk
theorem take_wth {ws : List Wd} {k : Nat} (hk : k < ws.length) : ws.take (k + 1) = ws.take k ++ [wth ws k] := by rw [List.take_succ_eq_append_getElem hk, wth_eq _ _ hk]
theorem drop_wth {ws : List Wd} {k : Nat} (hk : k < ws.length) : ws = ws.take k ++ wth ws k :: ws.drop (k + 1) := by
  conv => lhs; rw [← List.take_append_drop k ws, List.drop_eq_getElem_cons hk, ← wth_eq _ _ hk]
set_option maxRecDepth 100000 in
set_option maxHeartbeats 4000000 in
theorem products_any (a : Option Addr) (ws : List Wd) (c : Nat) (w : World) (h : Wds w a ws) (hn : ws.length ≤ 12) (hm : ∀ x ∈ ws, x.mask < 65536) : Calls Tryz.prog 120 #[.slice a ws.length c] w (RetProd ws w) := by
  have HH := Lib.hid h
  have HM := Lib.hid hm
  obtain ⟨w1, hup, hm1, he1⟩ := one_map w
  obtain ⟨b, hb⟩ : ∃ b, b = w.heap.size := ⟨_, rfl⟩
  rw [← hb] at hup hm1
  have hmm := @run_makeMap Tryz.prog
  clear h hm
  go_enter Tryz.func120, Tryz.ntmps120
  rw [hb] at hup hm1
  go_wp2_with (fail)
  rw [← hb] at hm1 ⊢
  have HB := Lib.hid hb
  have HS0 : Hid (Spans [] [oneW]) := Lib.hid Spans.nil
  have HE1 := Lib.hid he1
  clear hup hmm hb he1
  go_loopw [17] (fun i wr => ∃ (k : Nat) (xs : List Wd), k ≤ ws.length ∧ i = .int .i64 k ∧ Hid (MapAt 59 wr b (xs.map entW) ∧ Spans (ws.take k) xs ∧ Ext w wr)) (fun i _ => ws.length - (intOf i).toNat)
  case atStart => exact ⟨0, [oneW], Nat.zero_le _, rfl, Lib.hid ⟨hm1, HS0.out, HE1.out⟩⟩
  case round =>
    obtain ⟨k, xs, hk, rfl, hst⟩ := hrel
    clear hm1 HS0 HE1
    obtain ⟨hmr, hsp, her⟩ := hst.out
    clear hst
    have HSP := Lib.hid hsp
    have HER := Lib.hid her
    have HMR := Lib.hid hmr
    by_cases hlt : k < ws.length
    · obtain ⟨sb, so, rfl, d0, d1⟩ := wd_at (HH.out.ext wdC_len her) k hlt
      have Er := Ext.refl wr
      have hym := HM.out _ (wd_mem hlt)
      obtain ⟨y, hy⟩ : ∃ y, y = wth ws k := ⟨_, rfl⟩
      rw [← hy] at d0 d1 hym
      have HY := Lib.hid hy
      obtain ⟨ym, yo⟩ := y
      have HXM : Hid (∀ x ∈ xs, x.mask < 65536) := fun x hx => by
        have := gens_lt (m := 16) (ws.take k) (fun z hz => HM.out z (List.mem_of_mem_take hz)) x ((hsp.mem x).1 hx)
        exact this
      have HYM : Hid (ym < 65536) := hym
      clear hy hsp her hym
      by_cases hex : ∃ x, x ∈ xs ∧ x.mask = ym
      · obtain ⟨x, hx, hxm⟩ := hex
        have HX := Lib.hid hx
        obtain ⟨xm, xo⟩ := x
        simp only at hxm
        subst hxm
        have hlk : ∀ W, Ext wr W → (Instr.lookup 179 (.map (some b)) (.int .u16 (xm : Int)) true).run Tryz.prog W = .ok (.tuple #[.agg #[.int .u16 (xm : Int), .bool xo], .bool true]) W := fun W e => by
          have := (HMR.out.ext e).look_yes keyed59 Tryz.underlying179 (key59 HYM.out) (ent_mem HX.out) true
          simpa using this
        clear hx hmr
        by_cases ho : xo = yo
        · subst ho
          go_wp2_with (fail)
          refine ⟨⟨k + 1, xs, hlt, by simp, Lib.hid ⟨HMR.out.ext ((Er.alloc _).alloc _), ?_, HER.out.trans ((Er.alloc _).alloc _)⟩⟩, ?_⟩
          · rw [take_wth hlt, ← HY.out]; exact HSP.out.old HX.out
          · show ws.length - ((k : Int) + 1).toNat < ws.length - ((k : Int)).toNat; omega
        · go_wp2_with (fail)
          go_ret2
          refine ⟨HER.out.trans ((Er.alloc _).alloc _), .inl ⟨?_, rfl⟩⟩
          have := HSP.out.clash (ws.drop (k + 1)) HX.out (w := ⟨xm, yo⟩) rfl (fun e => ho (by cases e; rfl))
          rwa [HY.out, ← drop_wth hlt] at this
      · have hlk : ∀ W, Ext wr W → (Instr.lookup 179 (.map (some b)) (.int .u16 (ym : Int)) true).run Tryz.prog W = .ok (.tuple #[.agg #[.int .u16 0, .bool false], .bool false]) W := fun W e => by
          have := (HMR.out.ext e).look_no keyed59 Tryz.underlying179 (zero75 W) (key59 HYM.out) (ent_ne fun x hx e => hex ⟨x, hx, e⟩) true
          simpa using this
        have HEX := Lib.hid hex
        have HC : Hid (∀ W n, Ext wr W → W.heap.size = n → Calls Tryz.prog 147 #[.func (.func 167) #[] #[.pointer (some ⟨n, 0, none⟩)]] (W.alloc (.cells #[.map (some b)] 179)) (fun e w' => ∃ (v : Value) (ys : List Wd), e = .returned v ∧ ys.Perm xs ∧ OwnF 75 2 wdC w' (n + 1) v ys ∧ Ext (W.alloc (.cells #[.map (some b)] 179)) w')) := fun W n e hn' => by
          subst hn'
          have := collect_any W.heap.size b xs (W.alloc (.cells #[.map (some b)] 179)) (by have := HSP.out.len; have : 2 ^ (ws.take k).length ≤ 2 ^ 12 := Nat.pow_le_pow_right (by omega) (by rw [List.length_take]; omega); omega) (by rw [heap_size]; omega) ((obj_cells1 (heap_new W _)) _ (Ext.refl _)) ((HMR.out.ext e).ext ((Ext.refl _).alloc _))
          rwa [heap_size] at this
        clear hex hmr
        go_wp2_with (first
          | (go_at_call 148; (with_reducible refine (values_any b _).mono ?_); rintro e w' ⟨rfl, rfl⟩)
          | (go_at_call 147; (with_reducible refine (HC.out _ _ ((Er.alloc _).alloc _) (by rw [heap_size, heap_size])).mono ?_); rintro e w3 ⟨v, ys, rfl, hp, ho, he3⟩; obtain ⟨ya, yc, rfl⟩ := ownF_slice ho))
        have hC : Hid (Ext wr w3) := (((Er.alloc _).alloc _).alloc _).trans he3
        have hc6 := (obj_cells2 ((((Ext.refl (wr.alloc (.cells #[.int .u16 (ym : Int), .bool yo] 75))).alloc _).alloc _).trans he3 |>.block (heap_new wr _)))
        obtain ⟨c0, c1⟩ := hc6
        have hbl := HMR.out.lt
        have hyl : ys.length = xs.length := hp.length_eq
        have hxl : xs.length ≤ 4096 := by have := HSP.out.len; have : 2 ^ (ws.take k).length ≤ 2 ^ 12 := Nat.pow_le_pow_right (by omega) (by rw [List.length_take]; omega); omega
        obtain ⟨bv, hbv⟩ : ∃ bv, bv = wr.heap.size := ⟨_, rfl⟩
        rw [← hbv] at c0 c1 ho hbl ⊢
        have HO := Lib.hid ho
        have HP := Lib.hid hp
        have HYL := Lib.hid hyl
        have HNEW : Hid (Spans (ws.take (k + 1)) (xs ++ ys.map fun x => mulW x ⟨ym, yo⟩)) := by
          rw [Hid, take_wth hlt, ← HY.out]
          exact HSP.out.new (fun x hx e => HEX.out ⟨x, hx, e⟩) hp
        have d0' := c0 w3 (Ext.refl w3)
        have d1' := c1 w3 (Ext.refl w3)
        have HM3 := Lib.hid (HMR.out.ext hC.out)
        clear he3 ho hp hyl c0 c1 d0 d1 hbv
        obtain ⟨w4, hw4⟩ : ∃ w4 : World, w4 = w3 := ⟨_, rfl⟩
        have H0 : Hid (MapAt 59 w3 b ((xs ++ (ys.take 0).map fun x => mulW x ⟨ym, yo⟩).map entW) ∧ ExtX b w4 w3) := by
          rw [List.take_zero, List.map_nil, List.append_nil, hw4]
          exact ⟨HM3.out, ExtX.refl _ _⟩
        rw [← hw4] at d0' d1' HO HM3 hC
        clear hw4
        go_loopw [36] (fun i wi => ∃ j : Nat, j ≤ ys.length ∧ i = .int .i64 j ∧ Hid (MapAt 59 wi b ((xs ++ (ys.take j).map fun x => mulW x ⟨ym, yo⟩).map entW) ∧ ExtX b w4 wi)) (fun i _ => ys.length - (intOf i).toNat)
        case atStart => exact ⟨0, Nat.zero_le _, rfl, H0⟩
        case round =>
          obtain ⟨j, hj, rfl, hst⟩ := hrel
          clear H0
          obtain ⟨hmi, hxi⟩ := hst.out
          clear hst
          by_cases hjl : j < ys.length
          · obtain ⟨g, rfl, hgB, hgl, hcc⟩ := HO.out.cell wdC_len j hjl
            have hgb : g ≠ b := by omega
            have q0 := hxi.cell (hcc 0 (by omega)) hgb
            have q1 := hxi.cell (hcc 1 (by omega)) hgb
            have p0 := hxi.cell d0' (show bv ≠ b by omega)
            have p1 := hxi.cell d1' (show bv ≠ b by omega)
            have Ei := Ext.refl wr
            obtain ⟨x, hx⟩ : ∃ x, x = ys[j] := ⟨_, rfl⟩
            rw [← hx] at q0 q1
            obtain ⟨xm, xo⟩ := x
            have r0 : ∀ W, Ext wr W → W.cell? ⟨g, j * 2, none⟩ = some (.int .u16 (xm : Int)) := fun W e => e.cell q0
            have r1 : ∀ W, Ext wr W → W.cell? ⟨g, j * 2 + 1, none⟩ = some (.bool xo) := fun W e => e.cell q1
            have s0 : ∀ W, Ext wr W → W.cell? ⟨bv, 0, none⟩ = some (.int .u16 (ym : Int)) := fun W e => e.cell p0
            have s1 : ∀ W, Ext wr W → W.cell? ⟨bv, 1, none⟩ = some (.bool yo) := fun W e => e.cell p1
            have hxm : xm < 65536 := HXM.out ⟨xm, xo⟩ (HP.out.mem_iff.1 (by rw [hx]; exact List.getElem_mem hjl))
            obtain ⟨z, hz⟩ : ∃ z, z = mulW ⟨xm, xo⟩ ⟨ym, yo⟩ := ⟨_, rfl⟩
            have HT : Hid (∀ W, Calls Tryz.prog 121 #[.agg #[.int .u16 (xm : Int), .bool xo], .agg #[.int .u16 (ym : Int), .bool yo]] W (Ret (wdV z) W)) := fun W => by
              rw [hz]; exact times_any ⟨xm, xo⟩ ⟨ym, yo⟩ W hxm HYM.out
            have hzm : z.mask < 65536 := by rw [hz]; exact mulW_lt hxm HYM.out
            have hsplit : (xs ++ ys.map fun x => mulW x ⟨ym, yo⟩) = (xs ++ (ys.take j).map fun x => mulW x ⟨ym, yo⟩) ++ z :: (ys.drop (j + 1)).map fun x => mulW x ⟨ym, yo⟩ := by
              rw [hz, hx, List.append_assoc]
              congr 1
              conv => lhs; rw [← List.take_append_drop j ys, List.drop_eq_getElem_cons hjl, List.map_append, List.map_cons]
            have hnew : ∀ x ∈ xs ++ (ys.take j).map (fun x => mulW x ⟨ym, yo⟩), x.mask ≠ z.mask := by
              have hnd := HNEW.out.nodup
              rw [hsplit, List.map_append, List.nodup_append] at hnd
              intro x hx2
              exact hnd.2.2 _ (List.mem_map.2 ⟨x, hx2, rfl⟩) _ (by simp)
            have hsnoc : (xs ++ (ys.take (j + 1)).map fun x => mulW x ⟨ym, yo⟩) = (xs ++ (ys.take j).map fun x => mulW x ⟨ym, yo⟩) ++ [z] := by
              rw [hz, hx, List.append_assoc, List.take_succ_eq_append_getElem hjl, List.map_append]
              rfl
            obtain ⟨zm, zo⟩ := z
            have HUP : Hid (∀ W, Ext wr W → (Instr.mapUpdate 179 (.map (some b)) (.int .u16 (zm : Int)) (.agg #[.int .u16 (zm : Int), .bool zo])).run Tryz.prog W = .ok () (mapW 179 W b (.int .u16 (zm : Int)) (.agg #[.int .u16 (zm : Int), .bool zo])) ∧
                (MapAt 59 (mapW 179 W b (.int .u16 (zm : Int)) (.agg #[.int .u16 (zm : Int), .bool zo])) b ((xs ++ (ys.take (j + 1)).map fun x => mulW x ⟨ym, yo⟩).map entW) ∧ Turned W (mapW 179 W b (.int .u16 (zm : Int)) (.agg #[.int .u16 (zm : Int), .bool zo])) b)) := fun W e => by
              refine run_mapW (R := fun w' => MapAt 59 w' b ((xs ++ (ys.take (j + 1)).map fun x => mulW x ⟨ym, yo⟩).map entW) ∧ Turned W w' b) ?_
              obtain ⟨w', h1, h2, h3⟩ := (hmi.ext e).store_new keyed59 Tryz.underlying179 (key := .int .u16 (zm : Int)) (val := wdV ⟨zm, zo⟩) (key59 hzm) (ent_ne hnew) (by rw [ent_len, List.length_append, List.length_map, List.length_take]; have := HYL.out; unfold maxLen; omega)
              rw [hsnoc, List.map_append]
              exact ⟨w', h1, h2, h3⟩
            have hup := fun W (e : Ext wr W) => (HUP.out W e).1
            have HXI := Lib.hid hxi
            have hj4 : j ≤ 4096 := by have := HYL.out; omega
            clear hcc q0 q1 p0 p1 d0' d1' hx hxm hz hzm hsplit hnew hsnoc hmi hxi hgB hgl
            go_wp2_with (go_at_call 121; (with_reducible refine (HT.out _).mono ?_); rintro e w5 ⟨rfl, he5⟩; have he6 := (Ei.alloc _).trans he5)
            refine ⟨⟨j + 1, hjl, by simp, Lib.hid ⟨(HUP.out _ (he6.alloc _)).2.1, (HXI.out.trans (he6.alloc _).x).trans ((ExtX.refl b _).turned (HUP.out _ (he6.alloc _)).2.2)⟩⟩, ?_⟩
            show ys.length - ((j : Int) + 1).toNat < ys.length - ((j : Int)).toNat; omega
          · obtain rfl : j = ys.length := by omega
            have HMI := Lib.hid hmi
            have HXI := Lib.hid hxi
            clear hmi hxi d0' d1'
            go_wp2_with (fail)
            refine ⟨⟨k + 1, _, hlt, by simp, Lib.hid ⟨HMI.out, ?_, ?_⟩⟩, ?_⟩
            · rw [List.take_length]; exact HNEW.out
            · exact ((HER.out.trans hC.out).x.trans HXI.out).ext (Nat.le_of_eq HB.out.symm)
            · show ws.length - ((k : Int) + 1).toNat < ws.length - ((k : Int)).toNat; omega
    · obtain rfl : k = ws.length := by omega
      go_wp2_with (fail)
      go_ret2
      exact ⟨HER.out, .inr ⟨b, xs, rfl, Nat.le_of_eq HB.out.symm, HMR.out, by have := HSP.out; rwa [List.take_length] at this⟩⟩
end Go.Proofs.YtplbofhgmflnlaaGreat
