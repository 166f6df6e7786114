/-
  Walk: the law VaultLoads.
-/
import Derived.Test.YtlahejakcgoheaaTH
import Derived.Test.YtlahejakcgoheaaTD
import Derived.Test.YtlahejakcgoheaaTB
set_option linter.unusedVariables false
set_option linter.unusedSimpArgs false
namespace Go.Proofs.Ytlahejakcgoheaa
open Go.RowKit
/-- Bodies of a row's links are raised, byte by byte, whatever they share. -/
structure Bump (lo hi : Nat) (wl w : World) (a : Option Addr) (ys : List Lv) : Prop where
  x : ExtR lo hi wl w
  s : ∀ i (h : i < ys.length), ∃ g, a = some ⟨g, 0, none⟩ ∧ w.cell? ⟨g, i * 10 + 7, none⟩ = some (.slice ys[i].ba ys[i].l.bo.length ys[i].bc)
  b : ∀ y ∈ ys, ∀ r, r < y.l.bo.length → ∃ gb, y.ba = some ⟨gb, 0, none⟩ ∧ lo ≤ gb ∧ gb < hi ∧ w.frozen? ⟨gb, r, none⟩ = false ∧ ∃ z : UInt8, w.cell? ⟨gb, r, none⟩ = some (.int .u8 ((z.toNat : Nat) : Int))
theorem Bump.start {wa wf wl : World} {a : Option Addr} {c : Nat} {ys : List Lv} (h : RowB wa wf (.slice a ys.length c) ys) (e : Ext wf wl) : Bump wa.heap.size wf.heap.size wl wl a ys := by
  refine ⟨ExtR.refl _ _ _, fun i hi => ?_, fun y hy r hr => ?_⟩
  · obtain ⟨g, h1, h2, h3, h4⟩ := OwnF.cell lcl_len (h.row.ext e) i hi
    exact ⟨g, h1, h4 7 (by omega)⟩
  · obtain ⟨q1, q2, q3⟩ := h.bod y hy
    have q4 := q1.ext e
    rcases q1 with ⟨-, h0⟩ | ⟨gb, cap, cur, fz, hv, hg, hh, -⟩
    · rw [h0] at hr; simp at hr
    · simp only [Value.slice.injEq] at hv
      have hv1 := hv.1
      rw [hv1] at q4
      refine ⟨gb, hv1, hg, lt_of_block hh, q4.free r hr, y.l.bo.getD r 0, q4.cell r hr⟩
theorem Bump.set {lo hi : Nat} {wl w : World} {a : Option Addr} {ys : List Lv} (h : Bump lo hi wl w a ys) {gb r : Nat} {z0 : UInt8} (z : UInt8) (h0 : lo ≤ gb) (h1 : gb < hi) (hc : w.cell? ⟨gb, r, none⟩ = some (.int .u8 ((z0.toNat : Nat) : Int))) :
    Bump lo hi wl (w.setCell ⟨gb, r, none⟩ (.int .u8 ((z.toNat : Nat) : Int))) a ys := by
  refine ⟨h.x.set h0 h1 _, fun i hi => ?_, fun y hy k hk => ?_⟩
  · obtain ⟨g, q1, q2⟩ := h.s i hi
    refine ⟨g, q1, ?_⟩
    rw [World.cell?_setCell_other]
    · exact q2
    · intro e
      rw [e, q2] at hc
      cases hc
  · obtain ⟨g, q1, q2, q3, q4, z1, q5⟩ := h.b y hy k hk
    refine ⟨g, q1, q2, q3, by rw [World.frozen?_setCell]; exact q4, ?_⟩
    by_cases e : (⟨gb, r, none⟩ : Addr) = ⟨g, k, none⟩
    · refine ⟨z, ?_⟩
      rw [← e]
      exact World.cell?_setCell_same _ _ _ hc
    · exact ⟨z1, by rw [World.cell?_setCell_other _ _ _ _ e]; exact q5⟩
theorem Bump.ext {wa wl w : World} {hi : Nat} {a : Option Addr} {ys : List Lv} (h : Bump wa.heap.size hi wl w a ys) (e : Ext wa wl) : Ext wa w :=
  ⟨h.x.os.trans e.os, h.x.tape.trans e.tape, h.x.output.trans e.output, Nat.le_trans e.size h.x.size, fun k hk => (h.x.block k (Nat.lt_of_lt_of_le hk e.size) (.inl hk)).trans (Below.block e k hk)⟩
theorem Bump.fresh {wa wf wk wl w : World} {b : Nat} {S : PV} {a : Option Addr} {ys : List Lv} (h : Bump wa.heap.size wf.heap.size wl w a ys) (hv : FreshV wf wk b S) (e : Ext wk wl) : ∃ F A, VaultAt w b S F A ∧ (∀ k ∈ F, wf.heap.size ≤ k ∧ k < wk.heap.size) ∧ ∀ k ∈ A, wf.heap.size ≤ k ∧ k < wk.heap.size := by
  obtain ⟨F, A, h1, h2, h3, h4⟩ := hv
  have hlt := h1.lt
  have hl := (h1.ext e).lt
  exact ⟨F, A, (h1.ext e).frame (fun k q => h.x.block k (hl.1 k q) (.inr (h3 k q))) (fun k q => h.x.block k (hl.2 k q) (.inr (h4 k q))) h.x.size, fun k q => ⟨h3 k q, hlt.1 k q⟩, fun k q => ⟨h4 k q, hlt.2 k q⟩⟩
/-- The row that was forged is put in the place of the reference's. -/
theorem pr_forged {w1 wb w : World} {b : Nat} {S : PV} {al : Option Addr} {c x9 : Nat} {zs : List Lv} {F A : List Nat} (hv : VaultAt w b S F A) (hF : ∀ k ∈ F, w1.heap.size ≤ k ∧ k < wb.heap.size) (hA : ∀ k ∈ A, w1.heap.size ≤ k ∧ k < wb.heap.size)
    (hr : RowB wb w (.slice al zs.length c) zs) (hz : lks zs = S.chain) (hg : Good S) (e : Ext w1 w) (h9 : w1.heap.size ≤ x9) (h9' : x9 < w.heap.size) (hnF : x9 ∉ F) (hnA : x9 ∉ A) : PR w1 w b S S al zs x9 := by
  obtain ⟨hl, ho⟩ := hr.links
  refine ⟨F, A, hv, ⟨hl, ho, hz, hg⟩, ⟨fun hn ad hd q => ?_, fun y hy hn ad hd q => ?_⟩, e, fun k q => (hF k q).1, fun k q => (hA k q).1, h9, h9', hnF, hnA⟩
  · subst hd
    have := ownL_addr hr.row
    have := (hF _ q).2
    omega
  · have h1 := (hr.bod y hy).1
    rcases h1 with ⟨-, h0⟩ | ⟨gb, cap, cur, fz, hv1, hg1, -⟩
    · exact hn h0
    · simp only [Value.slice.injEq] at hv1
      rw [hv1.1] at hd
      cases hd
      have h2 : gb < wb.heap.size := (hF _ q).2
      omega
theorem set1_blk {w : World} {X : Nat} {u v v' : Value} {T : TypeId} {fz : Nat × Nat} (h : w.heap[X]? = some (.cells #[u, v] T fz)) : (w.setCell ⟨X, 1, none⟩ v').heap[X]? = some (.cells #[u, v'] T fz) := by
  have := block_set h 1 v'
  simpa using this
theorem told_kok (w5 : World) (S : PV) (x : Op) (al : Option Addr) (xs : List Lv) : KOk (fun W N' a' n' c' la' lc' => N' = false ∧ ∃ ys', n' = ys'.length ∧ RvAt W (playS S x) a' ys' ∧ Grow w5 al xs a' ys' ∧ Ents W la' (playR S x).list) :=
  ⟨fun W W' N a n c la lc ⟨h1, ys, h2, h3, h4, h5⟩ e => ⟨h1, ys, h2, h3.ext e, h4, h5.ext e⟩, fun W W' N a n c la lc g cs T fz ⟨h1, ys, h2, h3, h4, h5⟩ hg hs hno hk hsz => ⟨h1, ys, h2, h3.off hno hk, h4, h5.off hg hs hk⟩⟩
theorem told_k {w5 W : World} {S : PV} {x : Op} {al : Option Addr} {xs : List Lv} {c : Nat} (e5 : Ext w5 W) (h : Calls Try.prog 23 #[.agg #[.bool false, .slice al xs.length c], opval x] W (RetTold S al xs x W)) :
    Calls Try.prog 23 #[.agg #[.bool false, .slice al xs.length c], opval x] W (fun e w' => ∃ N' a' n' c' la' lc', e = .returned (.tuple #[rv N' a' n' c', resval (playR S x) la' lc']) ∧ Ext W w' ∧ (N' = false ∧ ∃ ys', n' = ys'.length ∧ RvAt w' (playS S x) a' ys' ∧ Grow w5 al xs a' ys' ∧ Ents w' la' (playR S x).list)) :=
  h.mono fun e w' ⟨a', c', ys, la, lc, h1, h2, h3, h4, h5⟩ => ⟨false, a', ys.length, c', la, lc, h1, h2, rfl, ys, rfl, h3, h5.base e5, h4⟩
theorem nil_kok : KOk (fun _ N' a' n' c' la' lc' => N' = true ∧ a' = none ∧ n' = 0 ∧ c' = 0 ∧ la' = none ∧ lc' = 0) :=
  ⟨fun _ _ _ _ _ _ _ _ h _ => h, fun _ _ _ _ _ _ _ _ _ _ _ _ h _ _ _ _ _ => h⟩
theorem nil_k {W : World} {x : Op} (h : Calls Try.prog 23 #[rv true none 0 0, opval x] W (Ret (.tuple #[rv true none 0 0, resval (nilR x) none 0]) W)) :
    Calls Try.prog 23 #[.agg #[.bool true, .slice none 0 0], opval x] W (fun e w' => ∃ N' a' n' c' la' lc', e = .returned (.tuple #[rv N' a' n' c', resval (nilR x) la' lc']) ∧ Ext W w' ∧ (N' = true ∧ a' = none ∧ n' = 0 ∧ c' = 0 ∧ la' = none ∧ lc' = 0)) :=
  h.mono fun e w' ⟨h1, h2⟩ => ⟨true, none, 0, 0, none, 0, h1, h2, rfl, rfl, rfl, rfl, rfl, rfl⟩
set_option maxRecDepth 100000 in
set_option maxHeartbeats 8000000 in
theorem loads_any (a1 a2 : Option Addr) (os ot : List Op) (c1 c2 : Nat) (f : Fg) (w : World) (hx : Ops w a1 os) (hy : Ops w a2 ot) (hl1 : os.length ≤ 9223372036854775807) (hl2 : ot.length ≤ 9223372036854775807) (htx : f.tx.size ≤ 9223372036854775807) (h20 : f.at0 < 256) (h30 : f.what < 256) (h50 : -9223372036854775808 ≤ f.num) (h51 : f.num ≤ 9223372036854775807) :
    Calls Try.prog 6 #[fval a1 a2 os.length c1 ot.length c2 f] w (Ret (.bool true) w) := by
  have HX := Lib.hid hx; have HY := Lib.hid hy
  have hwd := fun W (e : Ext w W) => wide_any a1 os c1 W (hx.ext e) hl1
  have hwe := fun W (e : Ext w W) => wide_any a2 ot c2 W (hy.ext e) hl2
  obtain ⟨n, hn⟩ : ∃ n, n = os.length := ⟨_, rfl⟩
  obtain ⟨m, hm⟩ : ∃ m, m = ot.length := ⟨_, rfl⟩
  obtain ⟨q1, hq1⟩ : ∃ q, q = wideB os := ⟨_, rfl⟩
  obtain ⟨q2, hq2⟩ : ∃ q, q = wideB ot := ⟨_, rfl⟩
  obtain ⟨q3, hq3⟩ : ∃ q, q = decide (8 < (m : Int)) := ⟨_, rfl⟩
  obtain ⟨q4, hq4⟩ : ∃ q, q = decide (60 < (f.tx.size : Int)) := ⟨_, rfl⟩
  have HN := Lib.hid hn; have HM := Lib.hid hm; have HQ1 := Lib.hid hq1; have HQ2 := Lib.hid hq2; have HQ3 := Lib.hid hq3; have HQ4 := Lib.hid hq4
  rw [← hn, ← hq1] at hwd
  rw [← hm, ← hq2] at hwe
  rw [← hn] at hl1 ⊢
  rw [← hm] at hl2 ⊢
  have HW := Lib.hid hwd; have HV := Lib.hid hwe
  have HFN := Lib.hid (And.intro h20 (And.intro h30 (And.intro h50 h51)))
  clear hx hy hn hm hq1 hq2 hq3 hq4 hwd hwe h20 h30 h50 h51
  go_enter Try.func6, Try.ntmps6
  go_upto_region 1 with fail
  generalize hw1 : World.alloc _ _ = w1
  obtain ⟨he, o1, -⟩ := alloc1 hw1
  have HE := Lib.hid he; have O1 := Lib.hid o1
  obtain ⟨f0, f1, f2, f3, f4, f5, f6⟩ := obj_cells7 o1
  have E1 := Ext.refl w1
  clear hw1 o1 he
  have hk1 := fun (W : World) (e : Ext w W) => (known_any W).mono fun e' w' (hr : Ret (.bool true) W e' w') => hr
  go_wp2_with (fail)
  (with_reducible refine (HW.out _ HE.out).mono ?_); rintro e w2 ⟨rfl, he2⟩
  have HE2 := Lib.hid he2
  cases q1
  · have he2' := Lib.hid (HE.out.trans he2)
    go_wp2_with (fail)
    (with_reducible refine (HV.out _ he2'.out).mono ?_); rintro e w3 ⟨rfl, he3⟩
    cases q2
    · have HE3 := Lib.hid (he2.trans he3)
      clear he2 he3 HE2 he2' HW HV
      by_cases h8 : (8 : Int) < (m : Int)
      · have he9 := HE.out.trans HE3.out
        have E3 := HE3.out
        go_wp2_with (fail)
        (with_reducible refine (known_any _).mono ?_); rintro e w9 ⟨rfl, he10⟩
        go_wp2_with (fail)
        go_ret
        exact ⟨rfl, he9.trans he10⟩
      · by_cases h60 : (60 : Int) < (f.tx.size : Int)
        · have he9 := HE.out.trans HE3.out
          have E3 := HE3.out
          go_wp2_with (fail)
          (with_reducible refine (known_any _).mono ?_); rintro e w9 ⟨rfl, he10⟩
          go_wp2_with (fail)
          go_ret
          exact ⟨rfl, he9.trans he10⟩
        · have E3 := HE3.out
          go_upto_region 3 with fail
          have d8 : decide ((8 : Int) < (m : Int)) = false := decide_eq_false (by omega)
          have d60 : decide ((60 : Int) < (f.tx.size : Int)) = false := decide_eq_false (by omega)
          rw [d8, d60]
          have hfo : FgOk f := ⟨HFN.out.1, HFN.out.2.1, by omega, HFN.out.2.2.1, HFN.out.2.2.2⟩
          have hb1 := wideB_false HQ1.out.symm
          have hb2 := wideB_false HQ2.out.symm
          rw [← HN.out] at hb1
          rw [← HM.out] at hb2
          have hn25 := hb1.1
          have hm8 : m ≤ 8 := by omega
          have HB1 := Lib.hid hb1; have HB2 := Lib.hid hb2; have HFO := Lib.hid hfo
          obtain ⟨xb, hxb⟩ : ∃ x, x = w.heap.size := ⟨_, rfl⟩
          rw [← hxb] at f0 f1 f2 f3 f4 f5 f6 O1 ⊢
          have F1 := Lib.hid f1
          have HCF := Lib.hid f0
          clear d8 d60 h8 h60 hfo hb1 hb2 hl1 hl2 HQ3 HQ4 hk1 htx E1 hxb q3 q4
          rename ((m : Int) ≤ 8 ∧ (f.tx.size : Int) ≤ 60) => hanon
          clear hanon
          try simp only [Bool.or_false]
          go_upto_region 4 with fail
          generalize hw4 : World.alloc w3 _ = w4
          obtain ⟨he4, o4, hs4⟩ := alloc1 hw4
          have hrv : RvAt w4 PV.new none [] := ⟨⟨.inl rfl, fun i hi => by simp at hi⟩, fun i hi => by simp at hi, rfl, .new⟩
          have HRV := Lib.hid hrv; have H4 := Lib.hid o4; have HE4 := Lib.hid (E3.trans he4)
          obtain ⟨x3, hx3⟩ : ∃ x, x = w3.heap.size := ⟨_, rfl⟩
          have h31 : w1.heap.size ≤ x3 := by rw [hx3]; exact E3.size
          rw [← hx3] at H4 ⊢
          clear hw4 he4 o4 hs4 hrv hx3 E3 HE3
          try simp only [Bool.or_false]
          go_wp2_with (fail)
          go_loopw [4] (fun i wr => ∃ k : Nat, k ≤ n ∧ i = .int .i64 k ∧ Hid (∃ al xs c, RvAt wr (playsS PV.new (os.take k)) al xs ∧ wr.heap[x3]? = some (.cells #[.bool false, .slice al xs.length c] 40 (0, 0)) ∧ Ext w1 wr)) (fun i _ => n - (intOf i).toNat)
          case atStart => exact ⟨0, Nat.zero_le _, rfl, none, [], 0, HRV.out, H4.out, HE4.out⟩
          case round =>
            obtain ⟨k, hk, rfl, hp⟩ := hrel
            obtain ⟨al, xs, c, hrv, hb3, her⟩ := hp.out
            clear hp HRV H4 HE4
            by_cases hlt : k < n
            · have hlx : k < os.length := by rw [← HN.out]; exact hlt
              obtain ⟨ob, oo, rfl, hc⟩ := HX.out.at k hlx
              have hst := playsS_take PV.new os k hlx
              have hok := HX.out.2 k hlx
              have hwo := wideO_false (HB1.out.2 k hlt)
              generalize playsS PV.new (os.take k) = S at *
              generalize oth os k = x at *
              have hE := HE.out.trans her
              have HB0 : Hid (Ext w1 wr) := her
              have HC : Hid (∀ W, Ext w1 W → OpC W ob (oo + k * 9) x) := fun W e => hc W (HE.out.trans e)
              have H3 := Lib.hid hb3
              have HT : Hid (∀ W, Ext wr W → Calls Try.prog 23 #[.agg #[.bool false, .slice al xs.length c], opval x] W (RetTold S al xs x W)) := fun W e => by
                exact told_any S al xs c x W (hrv.ext e) hok (by omega) (by omega) (by omega) (by omega) (by omega)
              have HST := Lib.hid hst
              have hk0 : (0 : Int) ≤ (k : Int) := by omega
              have hk1 : (k : Int) < (n : Int) := by omega
              obtain ⟨L, hL⟩ : ∃ L, L = xs.length := ⟨_, rfl⟩
              rw [← hL] at H3 HT
              clear hc hok hwo hb3 hst hE hrv hL
              have h0 := f0
              go_upto_region 7 with fail
              refine l6_7 HB0 h31 hk0 hk1 H3 h0 HC HT _ (by rfl) rfl rfl rfl ?_
              intro vs w9 ls9 hl9 hJ9 e0 e1 e2 e3 e4 e5 e6 e7 e8 e9
              simp only [Act.put, List.setIfInBounds_toArray, List.set_cons_zero, List.set_cons_succ]
              rw [e0, e1, e2, e3, e4, e5]
              have q6 := hl9 6 (by omega); have q8 := hl9 8 (by omega); have q10 := hl9 10 (by omega)
              obtain ⟨na, nc, ys, la, lc, k6, hr9⟩ := hJ9.a6 q6
              have k8 : vs 8 = rv false na ys.length nc := by rw [hJ9.a8 q8, k6]; rfl
              have hb9 := hJ9.a10 q10
              rw [k8] at hb9
              have hb9 : w9.heap[x3]? = some (.cells #[.bool false, .slice na ys.length nc] 40 (0, 0)) := hb9
              have hx9 := hJ9.x
              rw [← HST.out] at hr9
              have HFIN : Hid (∃ al xs c, RvAt w9 (playsS PV.new (os.take (k + 1))) al xs ∧ w9.heap[x3]? = some (.cells #[.bool false, .slice al xs.length c] 40 (0, 0)) ∧ Ext w1 w9) := ⟨na, ys, nc, hr9, hb9, hx9⟩
              clear hJ9 hl9 e0 e1 e2 e3 e4 e5 e6 e7 e8 e9 q6 q8 q10 hr9 hb9 hx9 k6 k8 H3 HC HT HB0 h0
              go_wp2_with (fail)
              go_roundw
              case rel => exact ⟨k + 1, by omega, by go_num, HFIN⟩
              case measure => simp [intOf]; omega
            · obtain rfl : k = n := by omega
              obtain ⟨wd, rfl⟩ : ∃ wd : World, wd = wr := ⟨_, rfl⟩
              rw [List.take_of_length_le (by rw [← HN.out]; exact Nat.le_refl _)] at hrv
              generalize playsS PV.new os = S at *
              have hxl := hrv.len
              have hfg := fun (c : Nat) (W : World) (e : Ext wd W) => forged_any al xs c a1 a2 k c1 m c2 f W (hrv.lk.ext e) hrv.ok (by rw [hrv.ch]; exact hrv.good.small.2) (by omega) HFO.out
              rw [hrv.ch] at hfg
              obtain ⟨FL, hfl⟩ : ∃ FL, FL = forgL f S.chain := ⟨_, rfl⟩
              rw [← hfl] at hfg
              have hfs : ∀ l ∈ FL, SmL l := by rw [hfl]; exact forgL_sm HFO.out hrv.good.small.2
              have hfn : FL.length ≤ 40000 := by
                rw [hfl]
                have h1 := forgL_len f S.chain
                have h2 := lks_len xs
                rw [hrv.ch] at h2
                omega
              obtain ⟨L, hL⟩ : ∃ L, L = xs.length := ⟨_, rfl⟩
              rw [← hL] at hfg hb3
              have HFG := Lib.hid hfg; have HFS := Lib.hid hfs; have HFNN := Lib.hid hfn; have H3 := Lib.hid hb3; have HRV := Lib.hid hrv; have HFL := Lib.hid hfl
              have hew := her
              have HWD := Lib.hid her
              obtain ⟨z0, z1⟩ := obj_cells2 hb3
              have Ed := Ext.refl wd
              clear hxl hfg hfs hfn hb3 hrv hL hfl
              go_wp2_with (fail)
              (with_reducible refine (HFG.out _ _ Ed).mono ?_); rintro e wf hrf
              obtain ⟨a, ca, ys, rfl, hrow, hlk⟩ := hrf
              obtain ⟨mo, hmo⟩ : ∃ m, m = ys.length := ⟨_, rfl⟩
              have hmo4 : mo ≤ 40000 := by
                have h1 := HFNN.out
                rw [← hlk, lks_len] at h1
                omega
              have hdf := hrow.old
              have hlks := hrow.links
              have hew := her.trans hdf
              rw [← hmo] at hrow ⊢
              have HROW := Lib.hid hrow; have HLK := Lib.hid hlk; have HMO := Lib.hid hmo; have HLL := Lib.hid hlks; have HEW := Lib.hid hew
              have Ef := Ext.refl wf
              clear hrow hlk hmo hlks hew hdf z0 z1 Ed her
              go_wp2_with (fail)
              go_loopw [6] (fun i wr => ∃ k : Nat, k ≤ mo ∧ i = .int .i64 k ∧ Ext wf wr) (fun i _ => mo - (intOf i).toNat)
              case atStart => exact ⟨0, Nat.zero_le _, rfl, Ef⟩
              case round =>
                obtain ⟨j, hj, rfl, hewr⟩ := hrel
                by_cases hlt2 : j < mo
                · have hlx : j < ys.length := by rw [← HMO.out]; exact hlt2
                  obtain ⟨b, o, rfl, hc⟩ := HLL.out.1.at j hlx
                  have hok := HLL.out.2 j hlx
                  have hby := HLL.out.1.2 j hlx
                  have hsm : SmL (lth ys j).l := HFS.out _ (by rw [← HLK.out, lth_eq _ _ hlx]; exact List.mem_map.2 ⟨_, List.getElem_mem hlx, rfl⟩)
                  obtain ⟨x, hx⟩ : ∃ x, x = lth ys j := ⟨_, rfl⟩
                  rw [← hx] at hok hby hsm hc
                  have hcl := fun W (e : Ext wr W) => hc W (hewr.trans e)
                  have y0 := fun W (e : Ext wr W) => (hcl W e).1
                  have y1 := fun W (e : Ext wr W) => (hcl W e).2.1
                  have y2 := fun W (e : Ext wr W) => (hcl W e).2.2.1
                  have y3 := fun W (e : Ext wr W) => (hcl W e).2.2.2.1
                  have y4 := fun W (e : Ext wr W) => (hcl W e).2.2.2.2.1
                  have y5 := fun W (e : Ext wr W) => (hcl W e).2.2.2.2.2.1
                  have y6 := fun W (e : Ext wr W) => (hcl W e).2.2.2.2.2.2.1
                  have y7 := fun W (e : Ext wr W) => (hcl W e).2.2.2.2.2.2.2.1
                  have y8 := fun W (e : Ext wr W) => (hcl W e).2.2.2.2.2.2.2.2.1
                  have y9 := fun W (e : Ext wr W) => (hcl W e).2.2.2.2.2.2.2.2.2
                  have hc1 := fun W (e : Ext wr W) => chain_any (j * 3) x W (by omega) hok (hby.ext (hewr.trans e))
                  have hc2 := fun W (e : Ext wr W) => rchain_any (j * 3) x W (by omega) hok hsm (hby.ext (hewr.trans e))
                  have e3 : ((j * 3 : Nat) : Int) = (j : Int) * 3 := by omega
                  simp only [Go.Proofs.Ytlahejakcgoheaa.u64, e3] at hc1 hc2
                  have HC1 := Lib.hid hc1; have HC2 := Lib.hid hc2
                  have hi0 : (0 : Int) ≤ (j : Int) := by omega
                  have hi1 : (j : Int) < (mo : Int) := by omega
                  have hr0 := Ext.refl wr
                  clear hx hc hcl hby hok hsm hc1 hc2 e3
                  go_upto_region 12 with fail
                  refine wp_region_ext (by kernel_rfl) (by kernel_rfl) hr0 ?_
                  repeat (first | go_big_quiet_step (((first | (go_at_call 31; exact Calls.later (HC1.out _ (Later.ok _))) | (go_at_call 32; exact Calls.later (HC2.out _ (Later.ok _)))))) | quiet_step (((first | (go_at_call 31; exact Calls.later (HC1.out _ (Later.ok _))) | (go_at_call 32; exact Calls.later (HC2.out _ (Later.ok _)))))))
                  refine wpQuiet_nil ?_
                  rintro _ ⟨nq, rfl⟩
                  have he1 := nq.ok
                  have he3 := hewr.trans he1
                  clear y0 y1 y2 y3 y4 y5 y6 y7 y8 y9 HC1 HC2
                  go_wp2_with (fail)
                  go_roundw
                  case rel => exact ⟨j + 1, by omega, by go_num, he3⟩
                  case measure => simp [intOf]; omega
                · obtain rfl : j = mo := by omega
                  obtain ⟨wg, rfl⟩ : ∃ wg : World, wg = wr := ⟨_, rfl⟩
                  have hck := fun W (e : Ext wf W) => check_any a ys ca W (HLL.out.1.ext e) HLL.out.2 (by rw [← HMO.out]; omega)
                  have hrk := fun W (e : Ext wf W) => rcheck_any a ys ca W (HLL.out.1.ext e) HLL.out.2 (by rw [HLK.out]; exact HFS.out) (by rw [← HMO.out]; omega)
                  have hld := fun W (e : Ext wf W) => load_f (c := ca) (HLL.out.1.ext e) HLL.out.2 (by rw [← HMO.out]; omega)
                  have hcap : ys.length ≤ ca := by
                    rcases HROW.out.row.2 with ⟨hv, hn0⟩ | ⟨g, cap, cur, hv, hg, hh, hnc, hcm, hs, ht⟩
                    · rw [hn0]; exact Nat.zero_le _
                    · simp only [Value.slice.injEq] at hv
                      rw [hv.2.2]; exact hnc
                  have hrd := fun W (e : Ext wf W) => rload_any a ys ca W (HLL.out.1.ext e) HLL.out.2 (by rw [HLK.out]; exact HFS.out) (by rw [← HMO.out]; omega) hcap
                  obtain ⟨ck, hcke⟩ : ∃ ck, ck = checkI 7 0 FL := ⟨_, rfl⟩
                  rw [HLK.out, ← hcke, ← HMO.out] at hck
                  rw [HLK.out, ← hcke, ← HMO.out] at hrk
                  rw [HLK.out, ← HMO.out] at hld
                  rw [HLK.out, ← HMO.out] at hrd
                  have HCK := Lib.hid hck; have HRK := Lib.hid hrk; have HLD := Lib.hid hld; have HRD := Lib.hid hrd
                  have HEG := Lib.hid hewr
                  clear hck hrk hld hcap hrd hcke hewr Ef hew
                  go_wp2_with (fail)
                  (with_reducible refine (HCK.out _ HEG.out).mono ?_); rintro e wh ⟨rfl, heh⟩
                  have heh2 := Lib.hid (HEG.out.trans heh)
                  clear heh HCK
                  go_wp2_with (fail)
                  (with_reducible refine (HRK.out _ heh2.out).mono ?_); rintro e wi ⟨rfl, hei⟩
                  have hei2 := Lib.hid (heh2.out.trans hei)
                  clear hei HRK HEG heh2
                  by_cases hz : loadE FL = 0
                  · go_upto_region 16 with fail
                    go_wp2_with (fail)
                    (with_reducible refine (HLD.out _ hei2.out).mono ?_); rintro e wj hr
                    rw [if_pos hz] at hr
                    obtain ⟨b, rfl, hfv⟩ := hr
                    have hej := Lib.hid (hei2.out.trans hfv.old)
                    have HFV := Lib.hid (hfv.base hei2.out)
                    clear hfv HLD hei2
                    go_wp2_with (fail)
                    (with_reducible refine (HRD.out _ hej.out).mono ?_); rintro e wk hr
                    unfold RetLoadR at hr
                    rw [hz, show decide ((0 : Int) ≠ 0) = false from rfl] at hr
                    obtain ⟨a9, n9, c9, rfl, hek, -⟩ := hr
                    have hek2 := Lib.hid (hej.out.trans hek)
                    have HFVK := Lib.hid (HFV.out.ext hek)
                    clear hek hej HRD HFV
                    go_upto_region 18 with fail
                    generalize hwl : World.alloc wk _ = wl
                    obtain ⟨hel, o9, hsl⟩ := alloc1 hwl
                    have HEL := Lib.hid (hek2.out.trans hel)
                    have HKL := Lib.hid hel
                    have HX9 := Lib.hid o9
                    obtain ⟨x9, hx9⟩ : ∃ x, x = wk.heap.size := ⟨_, rfl⟩
                    have HX9E := Lib.hid hx9
                    obtain ⟨z0, z1⟩ := obj_cells2 o9
                    rw [← hx9] at HX9 z0 z1 ⊢
                    have El := Ext.refl wl
                    clear hwl hel o9 hsl hx9 hek2
                    go_upto_region 20 with fail
                    clear z0 z1 El
                    have HBU : Hid (Bump wd.heap.size wf.heap.size wl wl a ys) := by
                      have h1 := HROW.out
                      have h2 := HMO.out
                      subst h2
                      exact Bump.start h1 HEL.out
                    go_wp2_with (fail)
                    go_loopw [11] (fun i wr => ∃ q : Nat, q ≤ j ∧ i = .int .i64 q ∧ Hid (Bump wd.heap.size wf.heap.size wl wr a ys)) (fun i _ => j - (intOf i).toNat)
                    case atStart => exact ⟨0, Nat.zero_le _, rfl, HBU.out⟩
                    case round =>
                      obtain ⟨q, hq, rfl, hbz⟩ := hrel
                      obtain ⟨wz, rfl⟩ : ∃ wz : World, wz = wr := ⟨_, rfl⟩
                      clear HBU
                      by_cases hlt3 : q < j
                      · have hqz : q < ys.length := by rw [← HMO.out]; exact hlt3
                        obtain ⟨gd, hda, -⟩ := hbz.out.s q hqz
                        subst hda
                        obtain ⟨L3, hL3⟩ : ∃ L, L = ys[q].l.bo.length := ⟨_, rfl⟩
                        have hL3m : L3 ≤ 3000 := by
                          have h1 := HFS.out ys[q].l (by rw [← HLK.out]; exact List.mem_map.2 ⟨_, List.getElem_mem hqz, rfl⟩)
                          rw [hL3]; exact h1.bo
                        have HL3 := Lib.hid hL3
                        have hj0 : (0 : Int) ≤ (q : Int) := by omega
                        have hj1 : (q : Int) < (j : Int) := by omega
                        clear hL3
                        go_wp2_with (fail)
                        go_loopw [12] (fun i wy => ∃ r : Nat, r ≤ L3 ∧ i = .int .i64 r ∧ Hid (Bump wd.heap.size wf.heap.size wl wy (some ⟨gd, 0, none⟩) ys)) (fun i _ => L3 - (intOf i).toNat)
                        case atStart => exact ⟨0, Nat.zero_le _, rfl, hbz.out⟩
                        case round =>
                          obtain ⟨r, hr, rfl, hby⟩ := hrel
                          obtain ⟨wy, rfl⟩ : ∃ wy : World, wy = wr := ⟨_, rfl⟩
                          obtain ⟨g7, hg7, hc7⟩ := hby.out.s q hqz
                          simp only [Option.some.injEq, Addr.mk.injEq, and_true] at hg7
                          subst hg7
                          have c7 := fun W (e : Ext wy W) => e.cell hc7
                          rw [← HL3.out] at c7
                          have E0 := Ext.refl wy
                          clear hc7 hbz
                          by_cases hlt4 : r < L3
                          · obtain ⟨gb, hgba, hg0, hg1, hfz, z, hcz⟩ := hby.out.b ys[q] (List.getElem_mem hqz) r (by rw [← HL3.out]; exact hlt4)
                            rw [hgba] at c7
                            have x1 : ∀ W, Ext wy W → W.cell? ⟨gb, r, none⟩ = some (.int .u8 ((z.toNat : Nat) : Int)) := fun W e => e.cell hcz
                            have hwr := wrap_u8 z
                            rw [IntKind.wrap_u8] at hwr
                            have HWR := Lib.hid hwr
                            have hnew := Lib.hid (hby.out.set (z + 1) hg0 hg1 hcz)
                            have hr0 : (0 : Int) ≤ (r : Int) := by omega
                            have hr1 : (r : Int) < (L3 : Int) := by omega
                            clear hwr hcz hg0 hg1 hgba hby
                            go_wp2_with (fail)
                            refine ⟨⟨r + 1, by omega, by go_num, ?_⟩, by simp [intOf]; omega⟩
                            rw [HWR.out]; exact hnew
                          · obtain rfl : r = L3 := by omega
                            go_wp2_with (fail)
                            go_roundw
                            case rel => exact ⟨q + 1, by omega, by go_num, hby.out⟩
                            case measure => simp [intOf]; omega
                      · obtain rfl : q = j := by omega
                        have hdz := Lib.hid (hbz.out.ext (HROW.out.old.trans HEL.out))
                        obtain ⟨F, A, hva, hF, hA⟩ := hbz.out.fresh HFVK.out HKL.out
                        have hlt9 : x9 < wl.heap.size := lt_of_block HX9.out
                        have hw9 : wf.heap.size ≤ x9 := by
                          have h1 := HFVK.out.old.size
                          have h2 := HX9E.out
                          omega
                        have hb9 := (hbz.out.x.block x9 hlt9 (.inr hw9)).trans HX9.out
                        have hb3 := hdz.out.block H3.out
                        have hez := hbz.out.x.size
                        have h12 := HEW.out.size
                        rw [← HX9E.out] at hF hA
                        have h1z := HWD.out.trans hdz.out
                        obtain ⟨z0, z1⟩ := obj_cells2 hb3
                        have Ez := Ext.refl wz
                        have hg9 := loadS_good hz
                        have HVA := Lib.hid hva; have HFB := Lib.hid hF; have HAB := Lib.hid hA; have HB9 := Lib.hid hb9; have H1Z := Lib.hid h1z; have HG9 := Lib.hid hg9
                        clear hva hF hA hb9 hb3 HX9 hbz HEL HKL HFVK hg9 H3 HROW HLL HLK HMO HX9E
                        go_wp2_with (fail)
                        (with_reducible refine (HFG.out _ _ hdz.out).mono ?_); rintro e wm hrf
                        obtain ⟨a8, c8, zs, rfl, hrow, hlk⟩ := hrf
                        obtain ⟨p, hp⟩ : ∃ p, p = zs.length := ⟨_, rfl⟩
                        have hzm := hrow.old
                        have hb9 := hzm.block HB9.out
                        have h1m := H1Z.out.trans hzm
                        obtain ⟨y0, y1⟩ := obj_cells2 hb9
                        have f9 := obj_free hb9
                        have Em := Ext.refl wm
                        have hsz := hzm.size
                        have hsm9 : x9 < wm.heap.size := by omega
                        have hgro := Lib.hid (show PR w1 wm b (loadS FL) (loadS FL) a8 zs x9 from pr_forged (HVA.out.ext hzm) (fun k q => ⟨by have := (HFB.out k q).1; omega, by have := (HFB.out k q).2; omega⟩) (fun k q => ⟨by have := (HAB.out k q).1; omega, by have := (HAB.out k q).2; omega⟩) hrow (by rw [hlk, HG9.out.2.1]) HG9.out.1 h1m (by omega) (by omega) (fun q => by have := (HFB.out _ q).2; omega) (fun q => by have := (HAB.out _ q).2; omega))
                        have HP := Lib.hid hp
                        have HB9' := Lib.hid hb9
                        rw [← hp]
                        have hew := h1m
                        clear z0 z1 Ez h1z hrow hlk hp hzm hb9 HB9 hsz HFG HVA HFB HAB H1Z hdz
                        go_upto_region 30 with fail
                        have hx9n := Lib.hid (set1_blk (v' := .slice a8 p c8) HB9'.out)
                        have hprn := Lib.hid (hgro.out.setX (no8_40 HB9'.out) (hgro.out.old.set (p := ⟨x9, 1, none⟩) (show w1.heap.size ≤ x9 by omega) (.slice a8 p c8)) (by simp [World.setCell]) (fun k q => heap_set_ne _ q))
                        clear y0 y1 f9 Em HB9' hgro hew h1m
                        generalize World.setCell wm _ _ = wn at *
                        go_wp2_with (fail)
                        go_loopw [13] (fun i wr => ∃ t : Nat, t ≤ m ∧ i = .int .i64 t ∧ Hid (∃ al xs c, PR w1 wr b (playsS (loadS FL) (ot.take t)) (playsS (loadS FL) (ot.take t)) al xs x9 ∧ wr.heap[x9]? = some (.cells #[.bool false, .slice al xs.length c] 40 (0, 0)))) (fun i _ => m - (intOf i).toNat)
                        case atStart => exact ⟨0, Nat.zero_le _, rfl, a8, zs, c8, hprn.out, by rw [← HP.out]; exact hx9n.out⟩
                        case round =>
                          obtain ⟨t, ht, rfl, hpq⟩ := hrel
                          obtain ⟨al, xs, c, hpr, hb9⟩ := hpq.out
                          clear hpq hx9n hprn HP
                          by_cases hlt4 : t < m
                          · have hlx : t < ot.length := by rw [← HM.out]; exact hlt4
                            obtain ⟨ob, oo, rfl, hc⟩ := HY.out.at t hlx
                            have hst := playsS_take (loadS FL) ot t hlx
                            have hok := HY.out.2 t hlx
                            have hwo := wideO_false (HB2.out.2 t hlt4)
                            have hg := HG9.out.1.plays (ot.take t)
                            generalize playsS (loadS FL) (ot.take t) = S9 at *
                            generalize oth ot t = x at *
                            have hE := hpr.old
                            have HC : Hid (∀ W, Ext w1 W → OpC W ob (oo + t * 9) x) := fun W e => hc W (HE.out.trans e)
                            have hpl := hpr.play hg x hok
                            obtain ⟨y0, y1, y2, y3, y4, y5, y6, y7, y8⟩ := HC.out wr hE
                            have HST := Lib.hid hst; have HG := Lib.hid hg; have HOK := Lib.hid hok; have HWO := Lib.hid hwo; have HPL := Lib.hid hpl; have HB4 := Lib.hid hb9
                            have hk0 : (0 : Int) ≤ (t : Int) := by omega
                            have hk1 : (t : Int) < (m : Int) := by omega
                            have hnil : PR w1 wr b S9 S9 al xs x9 := hpr
                            clear hst hg hok hwo hpl hb9 hc hpr hnil
                            go_wp2_with (fail)
                            (with_reducible refine HPL.out.mono ?_); rintro e wA ⟨pa, pc, rfl, hp4, hown, hx4⟩
                            have hb4 := hx4.trans HB4.out
                            have HP4 := Lib.hid hp4; have HB4' := Lib.hid hb4; have HPE := Lib.hid (OwnE.ents hown)
                            clear hp4 hown hx4 hb4 y0 y1 y2 y3 y4 y5 y6 y7 y8 HPL HB4 hE
                            go_upto_region 34 with fail
                            generalize hw5 : World.alloc wA _ = wB
                            obtain ⟨he5, o6, hs5⟩ := alloc1 hw5
                            have H6 := Lib.hid o6
                            have HP5 := Lib.hid (HP4.out.ext he5)
                            have H9 : Hid (wB.heap[x9]? = some (.cells #[.bool false, .slice al xs.length c] 40 (0, 0))) := he5.block HB4'.out
                            have HPE5 := Lib.hid (HPE.out.ext he5)
                            have HB0 : Hid (Ext w1 wB) := HP5.out.old
                            have HT : Hid (∀ W, Ext wB W → Calls Try.prog 23 #[.agg #[.bool false, .slice al xs.length c], opval x] W (fun e w' => ∃ N' a' n' c' la' lc', e = .returned (.tuple #[rv N' a' n' c', resval (playR S9 x) la' lc']) ∧ Ext W w' ∧ (N' = false ∧ ∃ ys', n' = ys'.length ∧ RvAt w' (playS S9 x) a' ys' ∧ Grow wB al xs a' ys' ∧ Ents w' la' (playR S9 x).list))) := fun W e => by
                              have h := HWO.out
                              exact told_k e (told_any S9 al xs c x W (HP5.out.ref.ext e) HOK.out (by omega) (by omega) (by omega) (by omega) (by omega))
                            have hKO := told_kok wB S9 x al xs
                            have h1 := f1
                            clear hw5 he5 o6 hs5 HP4 HB4' HPE
                            refine l6_34 HB0 hKO hk0 hk1 H9 h1 HC HT _ (by rfl) rfl rfl rfl ?_
                            intro vs wC ls9 hl9 hJ9 e0 e1 e2 e3 e4 e5 e6 e7 e8 e9 e10 e11
                            simp only [Act.put, List.setIfInBounds_toArray, List.set_cons_zero, List.set_cons_succ]
                            rw [e0, e1, e2, e3, e4, e5]
                            have q6 := hl9 6 (by omega); have q7 := hl9 7 (by omega); have q8 := hl9 8 (by omega); have q9 := hl9 9 (by omega); have q10 := hl9 10 (by omega); have q11 := hl9 11 (by omega); have q12 := hl9 12 (by omega); have q13 := hl9 13 (by omega)
                            obtain ⟨N', na, nn, nc, la, lc, k5, rfl, ys, rfl, hr9, hgr, hen⟩ := hJ9.a5 q6
                            obtain ⟨g7, k9, g7b, g7c⟩ := hJ9.a9 q10
                            obtain ⟨g8, k10, g8b, g8c⟩ := hJ9.a10 q11
                            have k7 : vs 8 = rv false na ys.length nc := by rw [(hJ9.a7 q8).2, k5]; rfl
                            have k8 : vs 9 = resval (playR S9 x) la lc := by rw [(hJ9.a8 q9).2, k5]; rfl
                            rw [q12, cond_true, k7] at g7c
                            rw [q13, cond_true, k8] at g8c
                            have g7c : wC.heap[g7]? = some (.cells #[.bool false, .slice na ys.length nc] 40 (0, 0)) := g7c
                            have g8c : wC.heap[g8]? = some (.cells #[.int .i64 (playR S9 x).num, .string (playR S9 x).text, .slice la (playR S9 x).list.length lc, .int .i64 (playR S9 x).err] 44 (0, 0)) := g8c
                            have hx9 := hJ9.x
                            rw [k9, k10]
                            have H6' := Lib.hid (hx9.block H6.out)
                            have H4' := Lib.hid (hx9.block H9.out)
                            have hp9 := HP5.out.moved hx9 hr9 hgr
                            have HP9 := Lib.hid hp9; have HEN9 := Lib.hid hen; have HPE9 := Lib.hid (HPE5.out.ext hx9); have HG7 := Lib.hid g7c; have HG8 := Lib.hid g8c
                            obtain ⟨L9, hL9⟩ : ∃ L, L = ys.length := ⟨_, rfl⟩
                            rw [← hL9] at HG7
                            have HL9 := Lib.hid hL9
                            clear hJ9 hl9 e0 e1 e2 e3 e4 e5 e6 e7 e8 e9 e10 e11 q6 q7 q8 q9 q10 q11 q12 q13 hr9 hgr hen g7b g7c g8b g8c hx9 hp9 H6 H9 HB0 HT HP5 HPE5 k9 k10 k5 k7 k8 hL9 hKO h1 HC
                            obtain ⟨y0, y1⟩ := obj_cells2 HG7.out
                            obtain ⟨z0, z1⟩ := obj_cells2 H4'.out
                            have f4 := obj_free H4'.out
                            have E9 := Ext.refl wC
                            go_upto_region 36 with fail
                            have hx4 := set2_blk (u' := .bool false) (v' := .slice na L9 nc) H4'.out
                            have hno := no8_40 H4'.out
                            have hoff := set2_off wC x9 (.bool false) (.slice na L9 nc)
                            have hx4w : w1.heap.size ≤ x9 := by obtain ⟨F, A, h1, h2, h3, h4, h5, h6, h7, h8, h9⟩ := HP9.out; exact h7
                            have hp10 := HP9.out.setX hno (set2_ext HP9.out.old hx4w (.bool false) (.slice na L9 nc)) (by simp [World.setCell]) hoff
                            have hs10 : ∀ g cs T, g ≠ x9 → wC.heap[g]? = some (.cells cs T (0, 0)) → ((wC.setCell ⟨x9, 0, none⟩ (.bool false)).setCell ⟨x9, 1, none⟩ (.slice na L9 nc)).heap[g]? = some (.cells cs T (0, 0)) := fun g cs T q h => (hoff g q).trans h
                            have hne6 : wA.heap.size ≠ x9 := by
                              rintro e
                              have h6 := H6'.out
                              rw [e, H4'.out] at h6
                              simp only [Option.some.injEq, Obj.cells.injEq] at h6
                              exact absurd h6.2.1 (by decide)
                            have hne8 : g8 ≠ x9 := by
                              rintro e
                              have h8 := HG8.out
                              rw [e, H4'.out] at h8
                              simp only [Option.some.injEq, Obj.cells.injEq] at h8
                              exact absurd h8.2.1 (by decide)
                            have h6n := hs10 _ _ _ hne6 H6'.out
                            have h8n := hs10 _ _ _ hne8 HG8.out
                            have en1 := HEN9.out.off H4'.out (by simp) hoff
                            have en2 := HPE9.out.off H4'.out (by simp) hoff
                            have HX4 := Lib.hid hx4; have HP10 := Lib.hid hp10; have H6N := Lib.hid h6n; have H8N := Lib.hid h8n; have EN1 := Lib.hid en1; have EN2 := Lib.hid en2
                            clear hx4 hno hoff hx4w hp10 hs10 hne6 hne8 h6n h8n en1 en2 y0 y1 z0 z1 f4 E9 H6' H4' HP9 HEN9 HPE9 HG7 HG8
                            generalize World.setCell (World.setCell wC _ _) _ _ = wD at *
                            obtain ⟨y0, y1, y2, y3⟩ := obj_cells4 H6N.out
                            obtain ⟨z0, z1, z2, z3⟩ := obj_cells4 H8N.out
                            have E10 := Ext.refl wD
                            have hsm := same_any (playR S9 x) pa la pc lc wD EN2.out EN1.out (by have := playR_len HG.out x; omega)
                            have HSM := Lib.hid hsm
                            clear hsm
                            go_wp2_with (fail)
                            (with_reducible refine HSM.out.mono ?_); rintro e wE ⟨rfl, he11⟩
                            have hp11 := HP10.out.ext he11
                            rw [← HST.out] at hp11
                            have HFIN : Hid (∃ al xs c, PR w1 wE b (playsS (loadS FL) (ot.take (t + 1))) (playsS (loadS FL) (ot.take (t + 1))) al xs x9 ∧ wE.heap[x9]? = some (.cells #[.bool false, .slice al xs.length c] 40 (0, 0))) := ⟨na, ys, nc, hp11, by rw [← HL9.out]; exact he11.block HX4.out⟩
                            clear y0 y1 y2 y3 z0 z1 z2 z3 E10 HSM hp11 EN1 EN2 H6N H8N HX4 HP10 HST HL9
                            go_wp2_with (fail)
                            go_roundw
                            case rel => exact ⟨t + 1, by omega, by go_num, HFIN⟩
                            case measure => simp [intOf]; omega
                          · obtain rfl : t = m := by omega
                            obtain ⟨wd9, rfl⟩ : ∃ wd : World, wd = wr := ⟨_, rfl⟩
                            have hg := HG9.out.1.plays ot
                            rw [List.take_of_length_le (by rw [← HM.out]; exact Nat.le_refl _)] at hpr
                            generalize playsS (loadS FL) ot = S9 at *
                            have HB9 := Lib.hid hb9
                            have HDM : Hid (∀ W, Ext wd9 W → Calls Try.prog 27 #[ptr b] W (RetDump S9.chain W)) := fun W e => dump_f (hpr.ext e).fresh hg
                            have HSL : Hid (∀ W a' c' (zs : List Lv), Ext wd9 W → Links W a' zs → lks zs = S9.chain → Calls Try.prog 28 #[.slice a' zs.length c', .slice al xs.length c] W (Ret (.bool true) W)) := fun W a' c' zs e hl hz => by
                              have hr := (hpr.ext e).ref
                              have hlen := hr.len
                              have hzl : zs.length = xs.length := by rw [← lks_len, hz, ← hr.ch, lks_len]
                              exact sameLinks_any a' al zs xs c' c W hl hr.lk (by rw [hz, hr.ch]) (LksOk.of hz (hpr.ext e).fresh.oks) (by omega)
                            have HXX := Lib.hid (HE.out.trans hpr.old)
                            have hE := hpr.old
                            clear hg hpr hb9
                            go_upto_region 38 with fail
                            refine l6_38 HB9 HDM HSL _ (by rfl) rfl rfl ?_
                            intro vs w9 ls9 hl9 hJ9 e0 e1 e2 e3 e4 e5 e6 e7 e8 e9 e10 e11 e12
                            simp only [Act.put, List.setIfInBounds_toArray, List.set_cons_zero, List.set_cons_succ]
                            rw [e0, e1, e2, e3, e5, e6, e7, e8, e9, e10, e11, e12]
                            have hx9 := hJ9
                            clear hl9 hJ9 e0 e1 e2 e3 e4 e5 e6 e7 e8 e9 e10 e11 e12
                            go_wp2_with (fail)
                            go_ret
                            exact ⟨rfl, HXX.out.trans hx9⟩
                  · go_upto_region 16 with fail
                    go_wp2_with (fail)
                    (with_reducible refine (HLD.out _ hei2.out).mono ?_); rintro e wj hr
                    rw [if_neg hz] at hr
                    obtain ⟨rfl, hej0⟩ := hr
                    have hej := Lib.hid (hei2.out.trans hej0)
                    have hrd := HRD.out _ hej.out
                    unfold RetLoadR at hrd
                    rw [show decide (loadE FL ≠ 0) = true from decide_eq_true hz] at hrd
                    obtain ⟨le, hle⟩ : ∃ le, le = loadE FL := ⟨_, rfl⟩
                    rw [← hle] at hrd hz ⊢
                    have HRD2 := Lib.hid hrd
                    clear hej0 HLD hei2 HRD hrd hle
                    go_wp2_with (fail)
                    (with_reducible refine HRD2.out.mono ?_); rintro e wk hr
                    obtain ⟨a9, n9, c9, rfl, hek, hn9⟩ := hr
                    obtain ⟨rfl, rfl, rfl⟩ := hn9 hz
                    have hek2 := Lib.hid (hej.out.trans hek)
                    clear hek hej HRD2 hn9
                    go_upto_region 18 with fail
                    generalize hwl : World.alloc wk _ = wl
                    obtain ⟨hel, o9, hsl⟩ := alloc1 hwl
                    have HEL := Lib.hid (hek2.out.trans hel)
                    have HX9 := Lib.hid o9
                    obtain ⟨x9, hx9⟩ : ∃ x, x = wk.heap.size := ⟨_, rfl⟩
                    have HX9E := Lib.hid (show wf.heap.size ≤ x9 by rw [hx9]; exact hek2.out.size)
                    obtain ⟨z0, z1⟩ := obj_cells2 o9
                    rw [← hx9] at HX9 z0 z1 ⊢
                    have El := Ext.refl wl
                    clear hwl hel o9 hsl hx9 hek2 hz
                    go_upto_region 20 with fail
                    clear z0 z1 El
                    have HBU : Hid (Bump wd.heap.size wf.heap.size wl wl a ys) := by
                      have h1 := HROW.out
                      have h2 := HMO.out
                      subst h2
                      exact Bump.start h1 HEL.out
                    go_wp2_with (fail)
                    go_loopw [11] (fun i wr => ∃ q : Nat, q ≤ j ∧ i = .int .i64 q ∧ Hid (Bump wd.heap.size wf.heap.size wl wr a ys)) (fun i _ => j - (intOf i).toNat)
                    case atStart => exact ⟨0, Nat.zero_le _, rfl, HBU.out⟩
                    case round =>
                      obtain ⟨q, hq, rfl, hbz⟩ := hrel
                      obtain ⟨wz, rfl⟩ : ∃ wz : World, wz = wr := ⟨_, rfl⟩
                      clear HBU
                      by_cases hlt3 : q < j
                      · have hqz : q < ys.length := by rw [← HMO.out]; exact hlt3
                        obtain ⟨gd, hda, -⟩ := hbz.out.s q hqz
                        subst hda
                        obtain ⟨L3, hL3⟩ : ∃ L, L = ys[q].l.bo.length := ⟨_, rfl⟩
                        have hL3m : L3 ≤ 3000 := by
                          have h1 := HFS.out ys[q].l (by rw [← HLK.out]; exact List.mem_map.2 ⟨_, List.getElem_mem hqz, rfl⟩)
                          rw [hL3]; exact h1.bo
                        have HL3 := Lib.hid hL3
                        have hj0 : (0 : Int) ≤ (q : Int) := by omega
                        have hj1 : (q : Int) < (j : Int) := by omega
                        clear hL3
                        go_wp2_with (fail)
                        go_loopw [12] (fun i wy => ∃ r : Nat, r ≤ L3 ∧ i = .int .i64 r ∧ Hid (Bump wd.heap.size wf.heap.size wl wy (some ⟨gd, 0, none⟩) ys)) (fun i _ => L3 - (intOf i).toNat)
                        case atStart => exact ⟨0, Nat.zero_le _, rfl, hbz.out⟩
                        case round =>
                          obtain ⟨r, hr, rfl, hby⟩ := hrel
                          obtain ⟨wy, rfl⟩ : ∃ wy : World, wy = wr := ⟨_, rfl⟩
                          obtain ⟨g7, hg7, hc7⟩ := hby.out.s q hqz
                          simp only [Option.some.injEq, Addr.mk.injEq, and_true] at hg7
                          subst hg7
                          have c7 := fun W (e : Ext wy W) => e.cell hc7
                          rw [← HL3.out] at c7
                          have E0 := Ext.refl wy
                          clear hc7 hbz
                          by_cases hlt4 : r < L3
                          · obtain ⟨gb, hgba, hg0, hg1, hfz, z, hcz⟩ := hby.out.b ys[q] (List.getElem_mem hqz) r (by rw [← HL3.out]; exact hlt4)
                            rw [hgba] at c7
                            have x1 : ∀ W, Ext wy W → W.cell? ⟨gb, r, none⟩ = some (.int .u8 ((z.toNat : Nat) : Int)) := fun W e => e.cell hcz
                            have hwr := wrap_u8 z
                            rw [IntKind.wrap_u8] at hwr
                            have HWR := Lib.hid hwr
                            have hnew := Lib.hid (hby.out.set (z + 1) hg0 hg1 hcz)
                            have hr0 : (0 : Int) ≤ (r : Int) := by omega
                            have hr1 : (r : Int) < (L3 : Int) := by omega
                            clear hwr hcz hg0 hg1 hgba hby
                            go_wp2_with (fail)
                            refine ⟨⟨r + 1, by omega, by go_num, ?_⟩, by simp [intOf]; omega⟩
                            rw [HWR.out]; exact hnew
                          · obtain rfl : r = L3 := by omega
                            go_wp2_with (fail)
                            go_roundw
                            case rel => exact ⟨q + 1, by omega, by go_num, hby.out⟩
                            case measure => simp [intOf]; omega
                      · obtain rfl : q = j := by omega
                        have hdz := Lib.hid (hbz.out.ext (HROW.out.old.trans HEL.out))
                        have hlt9 : x9 < wl.heap.size := lt_of_block HX9.out
                        have hb9 := (hbz.out.x.block x9 hlt9 (.inr HX9E.out)).trans HX9.out
                        have hb3 := hdz.out.block H3.out
                        have h12 := HEW.out.size
                        have h19 : w1.heap.size ≤ x9 := by have := HX9E.out; omega
                        have h1z := HWD.out.trans hdz.out
                        obtain ⟨z0, z1⟩ := obj_cells2 hb3
                        have Ez := Ext.refl wz
                        have HB9 := Lib.hid hb9; have H1Z := Lib.hid h1z
                        clear hb9 hb3 HX9 hbz HEL H3 HROW HLL HLK HMO HX9E
                        go_wp2_with (fail)
                        (with_reducible refine (HFG.out _ _ hdz.out).mono ?_); rintro e wm hrf
                        obtain ⟨a8, c8, zs, rfl, hrow, hlk⟩ := hrf
                        obtain ⟨p, hp⟩ : ∃ p, p = zs.length := ⟨_, rfl⟩
                        have hzm := hrow.old
                        have hb9 := hzm.block HB9.out
                        have h1m := H1Z.out.trans hzm
                        obtain ⟨y0, y1⟩ := obj_cells2 hb9
                        have Em := Ext.refl wm
                        rw [← hp]
                        have HB9' := Lib.hid hb9; have H1M := Lib.hid h1m
                        clear z0 z1 Ez h1z hrow hlk hp hzm hb9 HB9 HFG H1Z hdz
                        go_upto_region 30 with fail
                        clear y0 y1 Em h1m
                        go_wp2_with (fail)
                        go_loopw [13] (fun i wr => ∃ t : Nat, t ≤ m ∧ i = .int .i64 t ∧ Hid (Ext w1 wr ∧ wr.heap[x9]? = some (.cells #[.bool true, .slice none 0 0] 40 (0, 0)))) (fun i _ => m - (intOf i).toNat)
                        case atStart => exact ⟨0, Nat.zero_le _, rfl, H1M.out, HB9'.out⟩
                        case round =>
                          obtain ⟨t, ht, rfl, hpq⟩ := hrel
                          obtain ⟨hE, hb9⟩ := hpq.out
                          clear hpq HB9' H1M
                          by_cases hlt4 : t < m
                          · have hlx : t < ot.length := by rw [← HM.out]; exact hlt4
                            obtain ⟨ob, oo, rfl, hc⟩ := HY.out.at t hlx
                            have hok := HY.out.2 t hlx
                            have hwo := wideO_false (HB2.out.2 t hlt4)
                            generalize oth ot t = x at *
                            have HC : Hid (∀ W, Ext w1 W → OpC W ob (oo + t * 9) x) := fun W e => hc W (HE.out.trans e)
                            have hpl := play_nil x wr
                            have hnl : (nilR x).list = [] := by unfold nilR; split <;> rfl
                            obtain ⟨r9, hr9⟩ : ∃ r, r = nilR x := ⟨_, rfl⟩
                            obtain ⟨y0, y1, y2, y3, y4, y5, y6, y7, y8⟩ := HC.out wr hE
                            have HWO := Lib.hid hwo; have HB4 := Lib.hid hb9
                            have hk0 : (0 : Int) ≤ (t : Int) := by omega
                            have hk1 : (t : Int) < (m : Int) := by omega
                            have htn : ∀ W, Calls Try.prog 23 #[.agg #[.bool true, .slice none 0 0], opval x] W _ := fun W => nil_k (told_nil x W (by omega) (by omega))
                            rw [← hr9] at hpl hnl htn
                            have HPL := Lib.hid hpl; have HNL := Lib.hid hnl; have HTN := Lib.hid htn; have HE1 := Lib.hid hE
                            clear hok hwo hb9 hc hpl hnl hr9 htn
                            go_wp2_with (fail)
                            (with_reducible refine HPL.out.mono ?_); rintro e wA ⟨rfl, heA⟩
                            have HB4' := Lib.hid (heA.block HB4.out)
                            have HEA := Lib.hid (HE1.out.trans heA)
                            clear heA y0 y1 y2 y3 y4 y5 y6 y7 y8 HPL HB4 hE HE1
                            go_upto_region 34 with fail
                            generalize hw5 : World.alloc wA _ = wB
                            obtain ⟨he5, o6, hs5⟩ := alloc1 hw5
                            have H6 := Lib.hid o6
                            have H9 : Hid (wB.heap[x9]? = some (.cells #[.bool true, .slice none 0 0] 40 (0, 0))) := he5.block HB4'.out
                            have HB0 : Hid (Ext w1 wB) := HEA.out.trans he5
                            have HT : Hid (∀ W, Ext wB W → Calls Try.prog 23 #[.agg #[.bool true, .slice none 0 0], opval x] W (fun e w' => ∃ N' a' n' c' la' lc', e = .returned (.tuple #[rv N' a' n' c', resval r9 la' lc']) ∧ Ext W w' ∧ (N' = true ∧ a' = none ∧ n' = 0 ∧ c' = 0 ∧ la' = none ∧ lc' = 0))) := fun W _ => HTN.out W
                            have hKO := nil_kok
                            have h1 := f1
                            clear hw5 he5 o6 hs5 HB4' HEA HTN
                            refine l6_34 HB0 hKO hk0 hk1 H9 h1 HC HT _ (by rfl) rfl rfl rfl ?_
                            intro vs wC ls9 hl9 hJ9 e0 e1 e2 e3 e4 e5 e6 e7 e8 e9 e10 e11
                            simp only [Act.put, List.setIfInBounds_toArray, List.set_cons_zero, List.set_cons_succ]
                            rw [e0, e1, e2, e3, e4, e5]
                            have q6 := hl9 6 (by omega); have q7 := hl9 7 (by omega); have q8 := hl9 8 (by omega); have q9 := hl9 9 (by omega); have q10 := hl9 10 (by omega); have q11 := hl9 11 (by omega); have q12 := hl9 12 (by omega); have q13 := hl9 13 (by omega)
                            obtain ⟨N', na, nn, nc, la, lc, k5, rfl, rfl, rfl, rfl, rfl, rfl⟩ := hJ9.a5 q6
                            obtain ⟨g7, k9, g7b, g7c⟩ := hJ9.a9 q10
                            obtain ⟨g8, k10, g8b, g8c⟩ := hJ9.a10 q11
                            have k7 : vs 8 = rv true none 0 0 := by rw [(hJ9.a7 q8).2, k5]; rfl
                            have k8 : vs 9 = resval r9 none 0 := by rw [(hJ9.a8 q9).2, k5]; rfl
                            rw [q12, cond_true, k7] at g7c
                            rw [q13, cond_true, k8] at g8c
                            have g7c : wC.heap[g7]? = some (.cells #[.bool true, .slice none 0 0] 40 (0, 0)) := g7c
                            have g8c : wC.heap[g8]? = some (.cells #[.int .i64 r9.num, .string r9.text, .slice none r9.list.length 0, .int .i64 r9.err] 44 (0, 0)) := g8c
                            have hx9 := hJ9.x
                            rw [k9, k10]
                            have H6' := Lib.hid (hx9.block H6.out)
                            have H4' := Lib.hid (hx9.block H9.out)
                            have HG7 := Lib.hid g7c; have HG8 := Lib.hid g8c; have HP9 := Lib.hid (HB0.out.trans hx9)
                            clear hJ9 hl9 e0 e1 e2 e3 e4 e5 e6 e7 e8 e9 e10 e11 q6 q7 q8 q9 q10 q11 q12 q13 g7b g7c g8b g8c hx9 H6 H9 HB0 HT k9 k10 k5 k7 k8 hKO h1 HC
                            obtain ⟨y0, y1⟩ := obj_cells2 HG7.out
                            obtain ⟨z0, z1⟩ := obj_cells2 H4'.out
                            have f4 := obj_free H4'.out
                            have E9 := Ext.refl wC
                            go_upto_region 36 with fail
                            have hx4 := set2_blk (u' := .bool true) (v' := .slice none 0 0) H4'.out
                            have hoff := set2_off wC x9 (.bool true) (.slice none 0 0)
                            have hp10 := set2_ext HP9.out h19 (.bool true) (.slice none 0 0)
                            have hs10 : ∀ g cs T, g ≠ x9 → wC.heap[g]? = some (.cells cs T (0, 0)) → ((wC.setCell ⟨x9, 0, none⟩ (.bool true)).setCell ⟨x9, 1, none⟩ (.slice none 0 0)).heap[g]? = some (.cells cs T (0, 0)) := fun g cs T q h => (hoff g q).trans h
                            have hne6 : wA.heap.size ≠ x9 := by
                              rintro e
                              have h6 := H6'.out
                              rw [e, H4'.out] at h6
                              simp only [Option.some.injEq, Obj.cells.injEq] at h6
                              exact absurd h6.2.1 (by decide)
                            have hne8 : g8 ≠ x9 := by
                              rintro e
                              have h8 := HG8.out
                              rw [e, H4'.out] at h8
                              simp only [Option.some.injEq, Obj.cells.injEq] at h8
                              exact absurd h8.2.1 (by decide)
                            have h6n := hs10 _ _ _ hne6 H6'.out
                            have h8n := hs10 _ _ _ hne8 HG8.out
                            have HX4 := Lib.hid hx4; have HP10 := Lib.hid hp10; have H6N := Lib.hid h6n; have H8N := Lib.hid h8n
                            clear hx4 hoff hp10 hs10 hne6 hne8 h6n h8n y0 y1 z0 z1 f4 E9 H6' H4' HP9 HG7 HG8
                            generalize World.setCell (World.setCell wC _ _) _ _ = wD at *
                            obtain ⟨y0, y1, y2, y3⟩ := obj_cells4 H6N.out
                            obtain ⟨z0, z1, z2, z3⟩ := obj_cells4 H8N.out
                            have E10 := Ext.refl wD
                            have hsm := same_any r9 none none 0 0 wD (.inl HNL.out) (.inl HNL.out) (by rw [HNL.out]; simp)
                            have HSM := Lib.hid hsm
                            clear hsm
                            go_wp2_with (fail)
                            (with_reducible refine HSM.out.mono ?_); rintro e wE ⟨rfl, he11⟩
                            have HFIN : Hid (Ext w1 wE ∧ wE.heap[x9]? = some (.cells #[.bool true, .slice none 0 0] 40 (0, 0))) := ⟨HP10.out.trans he11, he11.block HX4.out⟩
                            clear y0 y1 y2 y3 z0 z1 z2 z3 E10 HSM H6N H8N HX4 HP10
                            go_wp2_with (fail)
                            go_roundw
                            case rel => exact ⟨t + 1, by omega, by go_num, HFIN⟩
                            case measure => simp [intOf]; omega
                          · obtain rfl : t = m := by omega
                            obtain ⟨wd9, rfl⟩ : ∃ wd : World, wd = wr := ⟨_, rfl⟩
                            have HXX := Lib.hid (HE.out.trans hE)
                            obtain ⟨z0, z1⟩ := obj_cells2 hb9
                            have hr0 := Ext.refl wd9
                            go_upto_region 38 with fail
                            refine wp_region_ext (by kernel_rfl) (by kernel_rfl) hr0 ?_
                            repeat (first | go_big_quiet_step (((go_at_call 12; exact Calls.later ((known_any _).mono fun e' w' hr => hr)))) | quiet_step (((go_at_call 12; exact Calls.later ((known_any _).mono fun e' w' hr => hr)))))
                            refine wpQuiet_nil ?_
                            rintro _ ⟨nq, rfl⟩
                            have hx9 := nq.ok
                            go_wp2_with (fail)
                            go_ret
                            exact ⟨rfl, HXX.out.trans hx9⟩
    · have he9 := he2'.out.trans he3
      go_wp2_with (fail)
      (with_reducible refine (known_any _).mono ?_); rintro e w9 ⟨rfl, he10⟩
      go_wp2_with (fail)
      go_ret
      exact ⟨rfl, he9.trans he10⟩
  · have he9 := HE.out.trans he2
    go_wp2_with (fail)
    (with_reducible refine (known_any _).mono ?_); rintro e w9 ⟨rfl, he10⟩
    go_wp2_with (fail)
    go_ret
    exact ⟨rfl, he9.trans he10⟩
end Go.Proofs.Ytlahejakcgoheaa
