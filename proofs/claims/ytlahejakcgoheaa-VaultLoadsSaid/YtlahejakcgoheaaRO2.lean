/-
  Walks of the reference: Chain's walk.
-/
import Derived.Test.YtlahejakcgoheaaRL4
set_option linter.unusedVariables false
set_option linter.unusedSimpArgs false
namespace Go.Proofs.Ytlahejakcgoheaa
open Go.RowKit
def ints4 (l : Lk) : List Int := [l.nu, l.ve, l.da, l.un]
def nums4 (ns : List Int) : List UInt8 := ns.flatMap fun n => numB (uw n) 4
theorem nums4_take (ns : List Int) (k : Nat) (hk : k < ns.length) : nums4 (ns.take (k + 1)) = nums4 (ns.take k) ++ numB (uw (nth ns k)) 4 := by
  unfold nums4
  rw [List.take_succ_eq_append_getElem hk, List.flatMap_append, nth_eq _ _ hk]; simp
theorem nums4_len (ns : List Int) : (nums4 ns).length = 4 * ns.length := by
  unfold nums4
  induction ns with
  | nil => rfl
  | cons n ns ih => rw [List.flatMap_cons, List.length_append, ih, numB_len, List.length_cons]; omega
theorem chain_row (n : Nat) (z : UInt8) (l : Lk) (hz : z.toNat = l.op) : hbs (nh n) ([z] ++ l.cu.data.toList ++ [0] ++ l.ki.data.toList ++ [0] ++ nums4 (ints4 l) ++ numB l.tag 8 ++ l.bo) = chainN n l := by
  unfold chainN nums4 ints4
  simp only [List.flatMap_cons, List.flatMap_nil, hbs_append, hbs_cons, hbs_nil, hz, List.append_nil]
  rfl
/-- A row of bytes that grows beside a block that stays. -/
structure JN (w1 w : World) (nb : Nat) (o : Obj) (out : Value) (cs : List UInt8) : Prop where
  x : Ext w1 w
  own : OwnB w w1.heap.size out cs
  blk : w.heap[nb]? = some o
  far : ∀ g, out.ownBlock = some g → g ≠ nb
theorem JN.ext {w1 w w' : World} {nb : Nat} {o : Obj} {out : Value} {cs : List UInt8} (h : JN w1 w nb o out cs) (e : Ext w w') : JN w1 w' nb o out cs := ⟨h.x.trans e, h.own.ext e, e.block h.blk, h.far⟩
theorem JN.app {w1 w : World} {nb : Nat} {o : Obj} {out : Value} {cs : List UInt8} (h : JN w1 w nb o out cs) (a : Option Addr) (ys : List UInt8) (c : Nat) (hx : Byts w a ys) (hn : cs.length + ys.length ≤ 140737488355328) :
    ∃ v' w', (Builtin.append_ #[23, 23] 23 #[out, .slice a ys.length c]).run Try.prog w = .ok v' w' ∧ JN w1 w' nb o v' (cs ++ ys) := by
  obtain ⟨v', w', r1, r2, r3, r4⟩ := app_bytes w w1.heap.size 23 out cs ys a c h.own hx hn h.x.size
  have hlt := lt_of_block h.blk
  refine ⟨v', w', r1, grown_ext h.x r3 (fun k hk => (h.own.lt k hk).1), r2, (r3.block nb hlt fun e => h.far nb e.symm rfl).trans h.blk, fun g hg => ?_⟩
  rcases r4 with r4 | r4
  · exact h.far g (r4 ▸ hg)
  · rw [r4] at hg
    have := Option.some.inj hg
    omega
set_option maxRecDepth 100000 in
set_option maxHeartbeats 4000000 in
theorem rchain_any (n : Nat) (x : Lv) (w : World) (hn : n < 18446744073709551616) (ho : LkOk x.l) (hsm : SmL x.l) (h : Byts w x.ba x.l.bo) : Calls Try.prog 32 #[u64 n, lval x] w (Ret (u64 (chainN n x.l)) w) := by
  obtain ⟨z, hz⟩ : ∃ z : UInt8, z = UInt8.ofNat x.l.op := ⟨_, rfl⟩
  have hzo : z.toNat = x.l.op := by rw [hz, UInt8.toNat_ofNat']; exact Nat.mod_eq_of_lt ho.op
  have hcr := chain_row n z x.l hzo
  have HZO := Lib.hid hzo; have HCR := Lib.hid hcr; have HOK := Lib.hid ho; have HSM := Lib.hid hsm; have HB := Lib.hid h
  have hcu : x.l.cu.size ≤ 9223372036854775807 := by have := hsm.cu; omega
  clear hz hzo hcr ho hsm h
  go_enter Try.func32, Try.ntmps32
  go_upto_region 1 with fail
  generalize hw1 : World.alloc _ _ = w1
  obtain ⟨he, o1, -⟩ := alloc1 hw1
  have HE := Lib.hid he
  obtain ⟨d0, d1, d2, d3, d4, d5, d6, d7, d8, d9⟩ := obj_cells10 o1
  rw [← HZO.out] at d0
  have D2 := Lib.hid d2; have D3 := Lib.hid d3; have D4 := Lib.hid d4; have D5 := Lib.hid d5; have D6 := Lib.hid d6; have D7 := Lib.hid d7; have D8 := Lib.hid d8
  clear hw1 o1 d2 d3 d4 d5 d6 d7 d8 d9 he
  have E1 := Ext.refl w1
  have ea := (Ext.refl w1).alloc (.cells #[.int .u8 ((z.toNat : Nat) : Int)] 5)
  have oa := own_lit1 w1 z
  obtain ⟨e1, o1, z1⟩ := bytesW_facts (w1.alloc (.cells #[.int .u8 ((z.toNat : Nat) : Int)] 5)) x.l.cu HOK.out.cu
  have hap := app_bytes (bytesW (w1.alloc (.cells #[.int .u8 ((z.toNat : Nat) : Int)] 5)) x.l.cu) w1.heap.size 23 _ [z] x.l.cu.data.toList (some ⟨(w1.alloc (.cells #[.int .u8 ((z.toNat : Nat) : Int)] 5)).heap.size, 0, none⟩) (bytesC (w1.alloc (.cells #[.int .u8 ((z.toNat : Nat) : Int)] 5)) x.l.cu) (oa.ext e1) o1.byts.1 (by have := HSM.out.cu; simp; omega) (ea.trans e1).size
  rw [len_data, heap_size] at hap
  have HAPP := Lib.hid hap; have HEA := Lib.hid (ea.trans e1); have HLT := Lib.hid (oa.ext e1).lt
  clear hap ea oa e1 o1 z1
  go_upto_region 2 with (first | (at_builtin; refine wpList_app _ rfl _ _ 23 rfl _ HAPP.out ?_; clear HAPP; rintro v' w10 ⟨ho5, hg5, -⟩; have he10 := grown_ext HEA.out hg5 (fun k hk => (HLT.out k hk).1); have HO5 := Lib.hid ho5; have HX5 := Lib.hid he10; clear ho5 hg5 he10) | fail)
  clear HEA HLT d0 d1 E1
  have h2 := D2.out
  have hki : x.l.ki.size ≤ 1000 := HSM.out.ki
  have hxl : ([z] ++ x.l.cu.data.toList).length ≤ 1000000 := by have := HSM.out.cu; simp; omega
  refine l32_2 HX5 HO5 h2 hki hxl _ (by rfl) rfl rfl ?_
  intro vs w9 ls9 hl9 hJ9 e0 e1 e2 e3 e4 e5 e6 e7 e8 e9
  simp only [Act.put, List.setIfInBounds_toArray, List.set_cons_zero, List.set_cons_succ]
  rw [e0, e3, e4]
  obtain ⟨hj1, hj2, hj3, hj4⟩ := hJ9
  have hown := hj1.own
  have hx := hj1.x
  rw [(hj4 (hl9 9 (by omega))).2]
  rw [hl9 8 (by omega)] at hown
  obtain ⟨pre, hpre⟩ : ∃ pre, pre = [z] ++ x.l.cu.data.toList ++ [0] ++ x.l.ki.data.toList ++ [0] := ⟨_, rfl⟩
  have hcr := HCR.out
  rw [← hpre] at hcr
  have hown : OwnB w9 w1.heap.size (vs 8) pre := by rw [hpre]; exact hown
  have hpl : pre.length ≤ 3000 := by rw [hpre]; have := HSM.out.cu; have := HSM.out.ki; simp; omega
  obtain ⟨u8, hu8⟩ : ∃ u8, u8 = vs 8 := ⟨_, rfl⟩
  rw [← hu8] at hown ⊢
  have HCR := Lib.hid hcr; have HOWN := Lib.hid hown; have HX9 := Lib.hid hx
  clear hj1 hj2 hj3 hj4 hcr hown hx hl9 e0 e1 e2 e3 e4 e5 e6 e7 e8 e9 hu8 hpre h2 hki hxl
  have d3 := fun W (e : Ext w9 W) => D3.out W (HX9.out.trans e)
  have d4 := fun W (e : Ext w9 W) => D4.out W (HX9.out.trans e)
  have d5 := fun W (e : Ext w9 W) => D5.out W (HX9.out.trans e)
  have d6 := fun W (e : Ext w9 W) => D6.out W (HX9.out.trans e)
  have E9 := Ext.refl w9
  go_upto_region 4 with fail
  generalize hwa : World.alloc w9 _ = wa
  obtain ⟨hea, oa, hsa⟩ := alloc1 hwa
  obtain ⟨O, hO⟩ : ∃ O, O = Obj.cells #[.int .i64 x.l.nu, .int .i64 x.l.ve, .int .i64 x.l.da, .int .i64 x.l.un] 3 (0, 0) := ⟨_, rfl⟩
  have hjn : JN w1 wa w9.heap.size O u8 (pre ++ nums4 ((ints4 x.l).take 0)) := ⟨HX9.out.trans hea, by
    have := HOWN.out.ext hea
    simpa [nums4] using this, by rw [hO]; exact oa, fun g hg => by have := (HOWN.out.lt g hg).2; omega⟩
  have hns : Hid (∀ W, W.heap[w9.heap.size]? = some O → ∀ k, k < 4 → ∀ W', Ext W W' → W'.cell? ⟨w9.heap.size, k, none⟩ = some (.int .i64 (nth (ints4 x.l) k))) := fun W hW k hk W' e => by
    rw [hO] at hW
    obtain ⟨c0, c1, c2, c3⟩ := obj_cells4 hW
    match k, hk with
    | 0, _ => exact c0 W' e
    | 1, _ => exact c1 W' e
    | 2, _ => exact c2 W' e
    | 3, _ => exact c3 W' e
  have HJN := Lib.hid hjn
  clear hwa oa hsa hea hO hjn d3 d4 d5 d6 E9
  go_wp2_with (fail)
  go_loopw [5, 7] (fun out i wr => ∃ k : Nat, k ≤ 4 ∧ i = .int .i64 k ∧ Hid (JN w1 wr w9.heap.size O out (pre ++ nums4 ((ints4 x.l).take k)))) (fun _ i _ => 4 - (intOf i).toNat)
  case atStart => exact ⟨0, by omega, rfl, HJN.out⟩
  case round =>
    obtain ⟨k, hk, rfl, hj⟩ := hrel
    by_cases hlt : k < 4
    · have x1 := hns.out wr hj.out.blk k hlt
      have E0 := Ext.refl wr
      have hi0 : (0 : Int) ≤ (k : Int) := by omega
      have hi1 : (k : Int) < 4 := by omega
      have hts := nums4_take (ints4 x.l) k hlt
      obtain ⟨v, hv⟩ : ∃ v, v = nth (ints4 x.l) k := ⟨_, rfl⟩
      rw [← hv] at x1 hts
      have hwr : IntKind.u64.wrap v = (uw v : Int) := wrap_uw v
      have hnl : (nums4 ((ints4 x.l).take k)).length ≤ 16 := by rw [nums4_len, List.length_take]; simp [ints4]; omega
      obtain ⟨bs, hbs⟩ : ∃ bs, bs = pre ++ nums4 ((ints4 x.l).take k) := ⟨_, rfl⟩
      have hbl : bs.length ≤ 4000 := by rw [hbs, List.length_append]; omega
      rw [← hbs] at hj
      have hts2 : pre ++ nums4 ((ints4 x.l).take (k + 1)) = bs ++ numB (uw v) 4 := by rw [hts, hbs, List.append_assoc]
      have HTS := Lib.hid hts2
      have HRB : Hid (Calls Try.prog 59 #[.int .u64 (uw v : Int), .int .i64 4] wr (RetB (numB (uw v) 4) wr)) := rbytes_any (uw v) 4 wr (uw_lt _) (by omega)
      clear hts hv hbs hts2 hnl
      go_upto_region 7 with fail
      go_wp2_with (fail)
      (with_reducible refine HRB.out.mono ?_); rintro e w20 ⟨a', c', rfl, he, hb⟩
      have hap := (hj.out.ext he).app a' (numB (uw v) 4) c' hb.byts.1 (by rw [numB_len]; omega)
      have HAPP := Lib.hid hap
      clear hap he hb x1 E0
      go_wp2_with (first | (at_builtin; refine wpList_app _ rfl _ _ 23 rfl _ HAPP.out ?_; clear HAPP; rintro v' w21 hj2; have HJ2 := Lib.hid hj2; clear hj2) | fail)
      exact ⟨⟨k + 1, by omega, by go_num, by rw [Hid, HTS.out]; exact HJ2.out⟩, by simp [intOf]; omega⟩
    · obtain rfl : k = 4 := by omega
      obtain ⟨cs, hcs⟩ : ∃ cs, cs = pre ++ nums4 ((ints4 x.l).take 4) := ⟨_, rfl⟩
      have hcl : cs.length ≤ 1000000 := by rw [hcs, List.length_append, nums4_len, List.length_take]; omega
      have hcr := HCR.out
      rw [show pre ++ nums4 (ints4 x.l) = cs by rw [hcs]; rfl] at hcr
      rw [← hcs] at hj
      have HX : Hid (Ext w1 wr) := hj.out.x
      have HO : Hid (OwnB wr w1.heap.size _ cs) := hj.out.own
      have h8 := D8.out; have h7 := D7.out
      have HBY : Hid (Byts w1 x.ba x.l.bo) := HB.out.ext HE.out
      have htg : x.l.tag < 18446744073709551616 := HOK.out.tag
      have HTB : Hid (∀ W, Ext w1 W → Calls Try.prog 59 #[.int .u64 (x.l.tag : Int), .int .i64 8] W (RetB (numB x.l.tag 8) W)) := fun W e => rbytes_any _ 8 W htg (by omega)
      have htl : (numB x.l.tag 8).length ≤ 1000000 := by rw [numB_len]; omega
      have hbl : x.l.bo.length ≤ 1000000 := by have := HSM.out.bo; omega
      obtain ⟨m, hm⟩ : ∃ m, (cs ++ numB x.l.tag 8 ++ x.l.bo).length = m := ⟨_, rfl⟩
      have HLM := Lib.hid hm
      have HD : Hid (∀ W a c, Ext w1 W → Byts W a (cs ++ numB x.l.tag 8 ++ x.l.bo) → Calls Try.prog 15 #[.int .u64 (n : Int), .slice a m c] W (Ret (.int .u64 (chainN n x.l : Int)) W)) := fun W a c e hb => by
        have := rdigest_any n a (cs ++ numB x.l.tag 8 ++ x.l.bo) c W hb (by rw [List.length_append, List.length_append]; omega)
        rw [hcr, HLM.out] at this
        exact this
      clear hcs hcr htg hns HJN hm
      go_upto_region 8 with fail
      refine l32_8 HX HO h8 h7 HBY HTB HD HLM hcl htl hbl _ (by rfl) rfl rfl rfl ?_
      intro vs w9 ls9 hl9 hJ9 e0 e1 e2 e3 e4 e5 e6 e7 e8 e9 e10
      simp only [Act.put, List.setIfInBounds_toArray, List.set_cons_zero, List.set_cons_succ]
      rw [e0, e1, e2, e3, e6, e7, e9, e10]
      have HXE := Lib.hid (HE.out.trans hJ9.1.x)
      clear hJ9 e0 e1 e2 e3 e4 e5 e6 e7 e8 e9 e10
      go_wp2_with (fail)
      go_ret
      exact ⟨rfl, HXE.out⟩
end Go.Proofs.Ytlahejakcgoheaa
