/-
  Walks of the reference: Release.
-/
import Derived.Test.YtlahejakcgoheaaRX
set_option linter.unusedVariables false
set_option linter.unusedSimpArgs false
namespace Go.Proofs.Ytlahejakcgoheaa
open Go.RowKit
set_option maxRecDepth 100000 in
set_option maxHeartbeats 4000000 in
theorem l55_16 {vb xb lb n c sk : Nat} {al : Option Addr} {sh tx : ByteArray} {x0 : Lv} {sl : Lk} {L : List Lk} {G0 : Option Addr → List Lv → Prop} {wb w0 : World} (HJ0 : Hid (JS wb w0 vb xb (.cells #[.bool false, .slice al n c] 40 (0, 0)) L G0 false false undef)) (HLB : Hid (w0.heap[lb]? = some (.cells (lcells x0) 59 (0, 0)))) (hlb : lb ≠ xb) (hsh : sh.size ≤ 1000000) (HD : Hid (∀ W a' c', Ext wb W → Byts W a' sh.data.toList → Calls Try.prog 15 #[.int .u64 3, .slice a' sh.size c'] W (Ret (u64 sk) W))) (HS : Hid (∀ W, Ext wb W → Calls Try.prog 81 #[u64 sk, lval x0, .string tx] W (RetCp sl W))) (HW : Hid (∀ W ba bc, Ext wb W → Byts W ba sl.bo → FrB wb ba → Calls Try.prog 78 #[.agg #[.bool false, .slice al n c], lval ⟨sl, ba, bc⟩] W (RetV L G0 W))) {Q : Exit → Act → World → Prop} (aZ : Act) (hsz : aZ.tmps.size = 90) (o5 : aZ.tmps[5]?.getD undef = .string sh) (o6 : aZ.tmps[6]?.getD undef = .pointer (some ⟨vb, 0, none⟩)) (o12 : aZ.tmps[12]?.getD undef = .pointer (some ⟨xb, 0, none⟩)) (o14 : aZ.tmps[14]?.getD undef = .string tx) (o22 : aZ.tmps[22]?.getD undef = .pointer (some ⟨lb, 0, none⟩))
    (hend : ∀ (vs : Nat → Value) (w9 : World) (ls9 : Nat → Bool), (∀ j : Nat, j < 10 → ls9 j = true) → (JS wb w9 vb xb (.cells #[.bool false, .slice al n c] 40 (0, 0)) L G0 (ls9 7) (ls9 8) (vs 7) ∧ w9.heap[lb]? = some (.cells (lcells x0) 59 (0, 0))) → (vs 0 = .agg #[.bool false, .slice al n c]) → (vs 1 = .string sh) → (∃ g c', vs 2 = .slice (some ⟨g, 0, none⟩) sh.size c' ∧ Byts w9 (some ⟨g, 0, none⟩) sh.data.toList) → (vs 3 = u64 sk) → (vs 4 = lval x0) → (vs 5 = .string tx) → (∃ ba bc, vs 6 = lval ⟨sl, ba, bc⟩ ∧ Byts w9 ba sl.bo ∧ FrB wb ba) → (True) → (vs 9 = .int .i64 0) → Q .normal (((((((((aZ.put (some 82) (vs 0)).put (some 83) (vs 1)).put (some 84) (vs 2)).put (some 85) (vs 3)).put (some 86) (vs 4)).put (some 87) (vs 5)).put (some 88) (vs 6)).put (some 89) (vs 7)).put (some 13) (vs 9)) w9) : (regOf Try.f55 16).wp Try.prog Q aZ w0 := by
  conv => arg 2; whnf
  refine wp_region_said3 (fun i v wz => match i with
    | 0 => v = .agg #[.bool false, .slice al n c]
    | 1 => v = .string sh
    | 2 => ∃ g c', v = .slice (some ⟨g, 0, none⟩) sh.size c' ∧ Byts wz (some ⟨g, 0, none⟩) sh.data.toList
    | 3 => v = u64 sk
    | 4 => v = lval x0
    | 5 => v = .string tx
    | 6 => ∃ ba bc, v = lval ⟨sl, ba, bc⟩ ∧ Byts wz ba sl.bo ∧ FrB wb ba
    | 7 => True
    | 8 => True
    | _ => v = .int .i64 0) (fun ls vs wz => JS wb wz vb xb (.cells #[.bool false, .slice al n c] 40 (0, 0)) L G0 (ls 7) (ls 8) (vs 7) ∧ wz.heap[lb]? = some (.cells (lcells x0) 59 (0, 0))) (by kernel_rfl) (by kernel_rfl) (by rw [hsz]; kernel_rfl) ?_ ?_ ?_
  · exact ⟨(JS.any HJ0.out).ext (Ext.refl _).drew, HLB.out⟩
  · refine ⟨?_, ?_, ?_, ?_, ?_, ?_, ?_, ?_, ?_, ?_, trivial⟩
    · intro ls vs a w1 hi hJ hold hdep K hK
      have q6 : a.tmps[6]?.getD undef = .pointer (some ⟨vb, 0, none⟩) := (hold 6 (by kernel_rfl)).trans o6
      rw [if_pos (by rfl)]
      clear hold hdep hend o5 o6 o12 o14 o22
      have HJ := Lib.hid hJ
      clear hJ
      obtain ⟨z0, z1⟩ := obj_cells2 HJ.out.1.bv
      have E1 := Ext.refl w1
      go_simp
      exact hK _ _ (fun _ _ _ h => h) HJ.out rfl
    · intro ls vs a w1 hi hJ hold hdep K hK
      have q5 : a.tmps[5]?.getD undef = .string sh := (hold 5 (by kernel_rfl)).trans o5
      rw [if_pos (by rfl)]
      clear hold hdep hend o5 o6 o12 o14 o22
      have HJ := Lib.hid hJ
      clear hJ
      go_simp
      exact hK _ _ (fun _ _ _ h => h) HJ.out rfl
    · intro ls vs a w1 hi hJ hold hdep K hK
      have q83 : a.tmps[83]?.getD undef = .string sh := (hdep 1 83 (by kernel_rfl) (by kernel_rfl)).2.1.trans (hdep 1 83 (by kernel_rfl) (by kernel_rfl)).2.2
      rw [if_pos (by rfl)]
      clear hold hdep hend o5 o6 o12 o14 o22
      have HJ := Lib.hid hJ
      clear hJ
      go_simp
      obtain ⟨he, o1, z1⟩ := bytesW_facts w1 sh (by unfold maxLen; omega)
      exact hK _ _ (fun j u _ h => by
            match j, h with
            | 0, h | 1, h | 3, h | 4, h | 5, h | 7, h | 8, h => exact h
            | 2, h => obtain ⟨g, c', h1, h2⟩ := h; exact ⟨g, c', h1, h2.ext he⟩
            | 6, h => obtain ⟨ba, bc, h1, h2, h3⟩ := h; exact ⟨ba, bc, h1, h2.ext he, h3⟩
            | (n + 9), h => exact h) ⟨HJ.out.1.ext he, he.block HJ.out.2⟩ ⟨_, _, rfl, o1.byts.1⟩
    · intro ls vs a w1 hi hJ hold hdep K hK
      obtain ⟨hl2, q84, p84⟩ := hdep 2 84 (by kernel_rfl) (by kernel_rfl)
      rw [if_pos (by rfl)]
      clear hold hdep hend o5 o6 o12 o14 o22
      have HJ := Lib.hid hJ
      clear hJ
      obtain ⟨g, c', k1, k2⟩ := p84
      rw [k1] at q84
      have hx := HJ.out.1.x
      go_simp
      go_at_call 15
      (with_reducible refine (HD.out _ _ _ hx k2).mono ?_); rintro e w20 ⟨rfl, he⟩
      exact hK _ _ (fun j u _ h => by
            match j, h with
            | 0, h | 1, h | 3, h | 4, h | 5, h | 7, h | 8, h => exact h
            | 2, h => obtain ⟨g, c', h1, h2⟩ := h; exact ⟨g, c', h1, h2.ext he⟩
            | 6, h => obtain ⟨ba, bc, h1, h2, h3⟩ := h; exact ⟨ba, bc, h1, h2.ext he, h3⟩
            | (n + 9), h => exact h) ⟨HJ.out.1.ext he, he.block HJ.out.2⟩ rfl
    · intro ls vs a w1 hi hJ hold hdep K hK
      have q22 : a.tmps[22]?.getD undef = .pointer (some ⟨lb, 0, none⟩) := (hold 22 (by kernel_rfl)).trans o22
      rw [if_pos (by rfl)]
      clear hold hdep hend o5 o6 o12 o14 o22
      have HJ := Lib.hid hJ
      clear hJ
      obtain ⟨d0, d1, d2, d3, d4, d5, d6, d7, d8, d9⟩ := obj_cells10 HJ.out.2
      have E1 := Ext.refl w1
      go_simp
      exact hK _ _ (fun _ _ _ h => h) HJ.out rfl
    · intro ls vs a w1 hi hJ hold hdep K hK
      have q14 : a.tmps[14]?.getD undef = .string tx := (hold 14 (by kernel_rfl)).trans o14
      rw [if_pos (by rfl)]
      clear hold hdep hend o5 o6 o12 o14 o22
      have HJ := Lib.hid hJ
      clear hJ
      go_simp
      exact hK _ _ (fun _ _ _ h => h) HJ.out rfl
    · intro ls vs a w1 hi hJ hold hdep K hK
      have q85 : a.tmps[85]?.getD undef = u64 sk := (hdep 3 85 (by kernel_rfl) (by kernel_rfl)).2.1.trans (hdep 3 85 (by kernel_rfl) (by kernel_rfl)).2.2
      have q86 : a.tmps[86]?.getD undef = lval x0 := (hdep 4 86 (by kernel_rfl) (by kernel_rfl)).2.1.trans (hdep 4 86 (by kernel_rfl) (by kernel_rfl)).2.2
      have q87 : a.tmps[87]?.getD undef = .string tx := (hdep 5 87 (by kernel_rfl) (by kernel_rfl)).2.1.trans (hdep 5 87 (by kernel_rfl) (by kernel_rfl)).2.2
      rw [if_pos (by rfl)]
      clear hold hdep hend o5 o6 o12 o14 o22
      have HJ := Lib.hid hJ
      clear hJ
      have hx := HJ.out.1.x
      go_simp
      go_at_call 81
      (with_reducible refine (HS.out _ hx).mono ?_); rintro e w20 ⟨ba, bc, rfl, he, hb⟩
      exact hK _ _ (fun j u _ h => by
            match j, h with
            | 0, h | 1, h | 3, h | 4, h | 5, h | 7, h | 8, h => exact h
            | 2, h => obtain ⟨g, c', h1, h2⟩ := h; exact ⟨g, c', h1, h2.ext he⟩
            | 6, h => obtain ⟨ba, bc, h1, h2, h3⟩ := h; exact ⟨ba, bc, h1, h2.ext he, h3⟩
            | (n + 9), h => exact h) ⟨HJ.out.1.ext he, he.block HJ.out.2⟩ ⟨_, _, rfl, hb.byts.1, FrB.own hb hx⟩
    · intro ls vs a w1 hi hJ hold hdep K hK
      have q82 : a.tmps[82]?.getD undef = .agg #[.bool false, .slice al n c] := (hdep 0 82 (by kernel_rfl) (by kernel_rfl)).2.1.trans (hdep 0 82 (by kernel_rfl) (by kernel_rfl)).2.2
      obtain ⟨hl6, q88, p88⟩ := hdep 6 88 (by kernel_rfl) (by kernel_rfl)
      rw [if_pos (by rfl)]
      clear hold hdep hend o5 o6 o12 o14 o22
      have HJ := Lib.hid hJ
      clear hJ
      obtain ⟨j1, j2⟩ := HJ.out
      have hx := j1.x
      have hi7 : ls 7 = false := hi
      rw [hi7] at j1
      obtain ⟨ba, bc, k1, k2, k3⟩ := p88
      rw [k1] at q88
      go_simp
      go_at_call 78
      (with_reducible refine (HW.out _ ba bc hx k2 k3).mono ?_); rintro e w20 hr
      obtain ⟨v, rfl, he, hj⟩ := j1.call hr
      exact hK _ _ (fun j u _ h => by
            match j, h with
            | 0, h | 1, h | 3, h | 4, h | 5, h | 7, h | 8, h => exact h
            | 2, h => obtain ⟨g, c', h1, h2⟩ := h; exact ⟨g, c', h1, h2.ext he⟩
            | 6, h => obtain ⟨ba, bc, h1, h2, h3⟩ := h; exact ⟨ba, bc, h1, h2.ext he, h3⟩
            | (n + 9), h => exact h) ⟨hj, he.block j2⟩ trivial
    · intro ls vs a w1 hi hJ hold hdep K hK
      have q12 : a.tmps[12]?.getD undef = .pointer (some ⟨xb, 0, none⟩) := (hold 12 (by kernel_rfl)).trans o12
      obtain ⟨hl7, q89, p89⟩ := hdep 7 89 (by kernel_rfl) (by kernel_rfl)
      rw [if_pos (by rfl)]
      clear hold hdep hend o5 o6 o12 o14 o22
      have HJ := Lib.hid hJ
      clear hJ
      obtain ⟨j1, j2⟩ := HJ.out
      have hi8 : ls 8 = false := hi
      rw [hl7, hi8] at j1
      obtain ⟨ra, rn, rc, hv, z0, z1, f1, hj, hoff⟩ := j1.store
      have hlbk := (set2_off w1 xb (.bool false) (.slice ra rn rc) lb hlb).trans j2
      rw [hv] at q89
      go_simp
      refine hK undef _ (fun j u _ h => by
            match j, h with
            | 0, h | 1, h | 3, h | 4, h | 5, h | 7, h | 8, h => exact h
            | 2, h => obtain ⟨g, c', h1, h2⟩ := h; exact ⟨g, c', h1, hoff _ _ h2⟩
            | 6, h => obtain ⟨ba, bc, h1, h2, h3⟩ := h; exact ⟨ba, bc, h1, hoff _ _ h2, h3⟩
            | (n + 9), h => exact h) ⟨?_, hlbk⟩ trivial
      show JS wb _ vb xb _ L G0 (ls 7) true (vs 7)
      rw [hl7]; exact hj
    · intro ls vs a w1 hi hJ hold hdep K hK
      rw [if_pos (by rfl)]
      clear hold hdep hend o5 o6 o12 o14 o22
      have HJ := Lib.hid hJ
      clear hJ
      go_simp
      exact hK _ _ (fun _ _ _ h => h) HJ.out rfl
  · intro vs w9 ls9 hl9 hJ9 hφ
    have e0 := hφ 0 (by kernel_rfl)
    have e1 := hφ 1 (by kernel_rfl)
    have e2 := hφ 2 (by kernel_rfl)
    have e3 := hφ 3 (by kernel_rfl)
    have e4 := hφ 4 (by kernel_rfl)
    have e5 := hφ 5 (by kernel_rfl)
    have e6 := hφ 6 (by kernel_rfl)
    have e7 := hφ 7 (by kernel_rfl)
    have e9 := hφ 9 (by kernel_rfl)
    have hq := hend vs w9 ls9 hl9 hJ9 e0 e1 e2 e3 e4 e5 e6 e7 e9
    simp only [Act.put] at hq
    simp only [putAll, Act.put]
    exact hq
section
variable {S : PV} {n p tu sh : ByteArray} {num : Int}
theorem relE_0 {q : Int} (h : (openR S n p num 0).2.2 = q) (hq : q ≠ 0) : relE S n p num tu sh = q := by unfold relE; rw [h, if_pos hq]
theorem relE_1 (h : (openR S n p num 0).2.2 = 0) (h1 : S.find tu = none) : relE S n p num tu sh = 7 := by unfold relE; rw [h, if_neg (by simp), h1, if_pos (by rfl)]
theorem relE_2 (h : (openR S n p num 0).2.2 = 0) (h1 : ¬ S.find tu = none) (h2 : tu = n) : relE S n p num tu sh = 6 := by
  unfold relE
  have : ¬ (S.find tu).isSome = false := by cases hf : S.find tu with | none => exact absurd hf h1 | some c => simp
  rw [h, if_neg (by simp), if_neg this, if_pos h2]
theorem relE_3 (h : (openR S n p num 0).2.2 = 0) (h1 : ¬ S.find tu = none) (h2 : ¬ tu = n) (h3 : passB sh = false) : relE S n p num tu sh = 4 := by
  unfold relE
  have : ¬ (S.find tu).isSome = false := by cases hf : S.find tu with | none => exact absurd hf h1 | some c => simp
  rw [h, if_neg (by simp), if_neg this, if_neg h2, if_pos h3]
theorem relE_4 (h : (openR S n p num 0).2.2 = 0) (h1 : ¬ S.find tu = none) (h2 : ¬ tu = n) (h3 : passB sh = true) : relE S n p num tu sh = if 20 ≤ madeN S n then 8 else 0 := by
  unfold relE
  have : ¬ (S.find tu).isSome = false := by cases hf : S.find tu with | none => exact absurd hf h1 | some c => simp
  rw [h, if_neg (by simp), if_neg this, if_neg h2, if_neg (by simp [h3])]
theorem relS_no {q : Int} (h : relE S n p num tu sh = q) (h0 : q ≠ 0) : relS S n p num tu sh = S := by unfold relS; rw [h, if_neg h0]
theorem relS_yes (h : relE S n p num tu sh = 0) : (relS S n p num tu sh).chain = S.chain ++ [chained S (relL S n p num tu sh)] := by unfold relS; rw [if_pos h, putS_chain]
theorem Good.rel_num (hg : Good S) (h : (openR S n p num 0).2.2 = 0) : (openR S n p num 0).2.1 = ((recV S n num).length : Int) := by
  obtain ⟨e1, e2, e3, e4⟩ := openR_num h
  rw [if_pos rfl] at e4
  obtain ⟨c, hf⟩ := enter_find e1
  have hr := hg.recA hf num
  rw [e4]
  by_cases q : recV S n num = []
  · rw [if_pos q] at hr; rw [hr] at e2; simp at e2
  · rw [if_neg q] at hr
    by_cases q2 : untilR (recV S n num) < S.day
    · rw [if_pos q2] at hr; rw [hr] at e2; simp at e2
    · rw [if_neg q2] at hr; rw [hr]
end
set_option maxRecDepth 100000 in
set_option maxHeartbeats 4000000 in
theorem rrel_any (S : PV) (al : Option Addr) (xs : List Lv) (c : Nat) (nm ps tu sh : ByteArray) (num : Int) (w : World) (hR : RvAt w S al xs) (hn : nm.size ≤ 1000) (hp : ps.size ≤ 1000) (ht : tu.size ≤ 1000) (hs : sh.size ≤ 1000000) (hu0 : -9223372036854775808 ≤ num) (hu1 : num ≤ 9223372036854775807) :
    Calls Try.prog 55 #[rv false al xs.length c, .string nm, .string ps, .int .i64 num, .string tu, .string sh] w (RetVE (relS S nm ps num tu sh).chain (Grow w al xs) (.int .i64 (relE S nm ps num tu sh)) w) := by
  have hop := fun W (e : Ext w W) => ropen_any S al xs c nm ps num 0 W (hR.ext e) hn hp (by omega) (by omega)
  have hdy := hR.day false c
  have hcu := hR.cus false c tu
  have hsr := hR.shr false c nm num tu
  have hvs := hR.vers false c nm num
  have hps := fun W => rpass_any sh W (by unfold maxLen; omega)
  obtain ⟨tx, htx⟩ : ∃ z, z = (openR S nm ps num 0).1 := ⟨_, rfl⟩
  obtain ⟨en, hen⟩ : ∃ z, z = (openR S nm ps num 0).2.2 := ⟨_, rfl⟩
  have hop : ∀ W, Ext w W → Calls Try.prog 53 #[rv false al xs.length c, .string nm, .string ps, .int .i64 num, .int .i64 0] W (Ret (.tuple #[.string tx, .int .i64 en]) W) := fun W e => by rw [htx, hen]; exact hop W e
  have htz := openR_text S nm ps num 0
  have hrn := hR.good.rel_num (n := nm) (p := ps) (num := num)
  have hRl := hR.good.recV_len nm num
  obtain ⟨dy, hdd⟩ : ∃ z, z = S.day := ⟨_, rfl⟩
  obtain ⟨ad, had⟩ : ∃ z, z = S.adv := ⟨_, rfl⟩
  obtain ⟨at0, hat⟩ : ∃ z, z = cusAt tu S.chain := ⟨_, rfl⟩
  obtain ⟨mdn, hmd⟩ : ∃ z, z = madeN S nm := ⟨_, rfl⟩
  obtain ⟨b1, hb1⟩ : ∃ b, b = passB sh := ⟨_, rfl⟩
  obtain ⟨n, hnn⟩ : ∃ z, z = xs.length := ⟨_, rfl⟩
  have hat2 := hR.good.said.at tu
  have s0 := fun q => relE_0 (S := S) (n := nm) (p := ps) (num := num) (tu := tu) (sh := sh) (q := q)
  have s1 := relE_1 (S := S) (n := nm) (p := ps) (num := num) (tu := tu) (sh := sh)
  have s2 := relE_2 (S := S) (n := nm) (p := ps) (num := num) (tu := tu) (sh := sh)
  have s3 := relE_3 (S := S) (n := nm) (p := ps) (num := num) (tu := tu) (sh := sh)
  have s4 := relE_4 (S := S) (n := nm) (p := ps) (num := num) (tu := tu) (sh := sh)
  rw [← htx] at htz; rw [← hen] at s0 s1 s2 s3 s4 hrn; rw [← hdd] at hdy; rw [← had] at hdy; rw [← hat] at hcu hat2; rw [← hmd] at hsr s4; rw [← hb1] at hps s3 s4; rw [← hnn] at hop hdy hcu hsr hvs ⊢
  have HOP := Lib.hid hop; have HDY := Lib.hid hdy; have HCU := Lib.hid hcu; have HSR := Lib.hid hsr; have HVS := Lib.hid hvs; have HPS := Lib.hid hps; have HR := Lib.hid hR; have HN := Lib.hid hnn
  have S0 := Lib.hid s0; have S1 := Lib.hid s1; have S2 := Lib.hid s2; have S3 := Lib.hid s3; have S4 := Lib.hid s4; have HAT := Lib.hid hat2; have HRN := Lib.hid hrn; have HTX := Lib.hid htx; have HTZ := Lib.hid htz; have HDD := Lib.hid hdd; have HEN := Lib.hid hen; have HRL := Lib.hid hRl
  have hN := Lib.hid hn; have hP := Lib.hid hp; have hT := Lib.hid ht; have hU := Lib.hid (And.intro hu0 hu1)
  have hsh2 : sh.size ≤ 9223372036854775807 := by omega
  clear hop hdy hcu hsr hvs hps htx hen htz hrn hdd had hat hmd hb1 hnn hat2 hR s0 s1 s2 s3 s4 hn hp ht hRl
  go_enter Try.func55, Try.ntmps55
  go_upto_region 1 with fail
  generalize hw1 : World.alloc _ _ = w1
  obtain ⟨he, o1, o2, hs1⟩ := alloc2 hw1
  have O1 := Lib.hid o1; have O2 := Lib.hid o2; have HE := Lib.hid he
  obtain ⟨v0, v1⟩ := obj_cells2 o1
  obtain ⟨z0, z1⟩ := obj_cells2 o2
  have f1 := obj_free o2
  have E1 := Ext.refl w1
  clear hw1 o1 o2
  have hend : ∀ (W : World) (q : Int), Ext w1 W → relE S nm ps num tu sh = q → q ≠ 0 → RetVE (relS S nm ps num tu sh).chain (Grow w al xs) (.int .i64 (relE S nm ps num tu sh)) w (.returned (.tuple #[rv false al n c, .int .i64 q])) ((W.setCell ⟨w.heap.size + 1, 0, none⟩ (.bool false)).setCell ⟨w.heap.size + 1, 1, none⟩ (.slice al n c)) := fun W q e hq h0 => by
    obtain ⟨k1, k2⟩ := same40 (N := false) (c := c) HR.out.lk HR.out.ok HN.out (HE.out.trans e) (by omega) (e.block O2.out)
    rw [relS_no hq h0, hq]
    exact ⟨al, c, xs, by rw [HN.out], k1, k2, HR.out.ok, HR.out.ch, Grow.same _ _ _⟩
  have HEND := Lib.hid hend
  clear hend
  go_wp2_with (fail)
  (with_reducible refine (HOP.out _ he).mono ?_); rintro e w2 ⟨rfl, he2⟩
  have E2 := Ext.refl w2
  by_cases h0 : en = 0
  · subst h0
    go_wp2_with (fail)
    (with_reducible refine (HDY.out _ (HE.out.trans he2)).mono ?_); rintro e w3 ⟨rfl, he3⟩
    have he13 := he2.trans he3
    have E3 := Ext.refl w3
    clear E2 he2 he3
    go_wp2_with (fail)
    (with_reducible refine (HCU.out _ (HE.out.trans he13)).mono ?_); rintro e w4 ⟨rfl, he4⟩
    have he14 := he13.trans he4
    have E4 := Ext.refl w4
    clear E3 he13 he4
    go_wp2_with (fail)
    (with_reducible refine (HSR.out _ (HE.out.trans he14)).mono ?_); rintro e w5 ⟨la, lc, ys, rfl, he5, -, -, -⟩
    have he15 := he14.trans he5
    have E5 := Ext.refl w5
    obtain ⟨k5, hk5⟩ : ∃ k, k = ys.length := ⟨_, rfl⟩
    rw [← hk5]
    clear E4 he14 he5 hk5
    by_cases h1 : at0 < 0
    · go_wp2_with (fail)
      refine bodyPost_ret (v := .tuple #[rv false al n c, .int .i64 7]) (by simp [results, Try.results55, go_sem, z0 _ he15, z1 _ he15]) rfl (HEND.out w5 7 he15 (S1.out (by simp) (HAT.out.1 h1)) (by omega))
    · have hfd : Hid (¬ S.find tu = none) := fun e => h1 (HAT.out.2 e)
      cases T2 : decide (tu = nm)
      · have hne : Hid (¬ tu = nm) := of_decide_eq_false T2
        have s2 := str_beq tu nm
        rw [T2] at s2
        go_wp2_with (fail)
        (with_reducible refine (HPS.out _).mono ?_); rintro e w6 ⟨rfl, he6⟩
        have he16 := he15.trans he6
        have E6 := Ext.refl w6
        clear E5 he15 he6
        cases b1
        · go_wp2_with (fail)
          refine bodyPost_ret (v := .tuple #[rv false al n c, .int .i64 4]) (by simp [results, Try.results55, go_sem, z0 _ he16, z1 _ he16]) rfl (HEND.out w6 4 he16 (S3.out (by simp) hfd.out hne.out (by simp)) (by omega))
        · have h4 := S4.out (by simp) hfd.out hne.out (by simp)
          by_cases h20 : 20 ≤ mdn
          · rw [if_pos h20] at h4
            have H4 := Lib.hid h4
            clear h4
            go_wp2_with (fail)
            refine bodyPost_ret (v := .tuple #[rv false al n c, .int .i64 8]) (by simp [results, Try.results55, go_sem, z0 _ he16, z1 _ he16]) rfl (HEND.out w6 8 he16 H4.out (by omega))
          · rw [if_neg h20] at h4
            have H4 := Lib.hid h4
            clear h4
            go_wp2_with (fail)
            (with_reducible refine (HVS.out _ (HE.out.trans he16)).mono ?_); rintro e w7 ⟨la7, lc7, ys7, rfl, he7, -, -, hyr⟩
            have he17 := he16.trans he7
            have E7 := Ext.refl w7
            obtain ⟨m, hm⟩ : ∃ m, m = ys7.length := ⟨_, rfl⟩
            have hm2 : m = (recV S nm num).length := by rw [hm, ← hyr, lks_len]
            rw [← hm]
            have HM2 := Lib.hid hm2
            clear E6 he16 he7 hm hyr hm2
            have hve : (openR S nm ps num 0).2.1 = (m : Int) := by rw [HRN.out (by simp), HM2.out]
            have HVE := Lib.hid hve
            have hch := relS_yes H4.out
            have HCHN := Lib.hid hch
            clear hve hch
            go_upto_region 16 with fail
            generalize hw8 : World.alloc w7 _ = w8
            obtain ⟨he8, o8, hs8⟩ := alloc1 hw8
            have hsz7 := he17.size
            have HLB : Hid (w8.heap[w7.heap.size]? = some (.cells (lcells ⟨relL0 S nm ps num tu, none, 0⟩) 59 (0, 0))) := by
              rw [Hid]
              show _ = some (Obj.cells #[.int .u8 5, .string nm, .string tu, .int .i64 num, .int .i64 (openR S nm ps num 0).2.1, .int .i64 S.day, .int .i64 0, .slice none 0 0, .int .u64 0, .int .u64 0] 59 (0, 0))
              rw [HVE.out, ← HDD.out]; exact o8
            have hlb : w7.heap.size ≠ w.heap.size + 1 := by omega
            have he18 := he17.trans he8
            have HJ0 := Lib.hid (JS.start (L := S.chain ++ [chained S (relL S nm ps num tu sh)]) (G := Grow w al xs) (HE.out.trans he18) (show w.heap.size ≤ w.heap.size + 1 by omega) (show w.heap.size ≠ w.heap.size + 1 by omega) (he18.block O1.out) (he18.block O2.out) undef)
            have hsh := hs
            have hsk : shareK sh < 18446744073709551616 := p61_64 (hbs_lt _ _ (nh_lt _))
            have HD : Hid (∀ W a' c', Ext w W → Byts W a' sh.data.toList → Calls Try.prog 15 #[.int .u64 3, .slice a' sh.size c'] W (Ret (u64 (shareK sh)) W)) := fun W a' c' e hb => by
              have := rdigest_any 3 a' sh.data.toList c' W hb (by rw [len_data]; omega)
              rw [len_data] at this
              exact this
            have hl0 : LkOk (relL0 S nm ps num tu) := relL0_ok HR.out.good HEN.out.symm (recAt_len HR.out.good nm num) (by have := hN.out; unfold maxLen; omega) (by have := hT.out; unfold maxLen; omega) hU.out.1 hU.out.2
            have HS : Hid (∀ W, Ext w W → Calls Try.prog 81 #[u64 (shareK sh), lval ⟨relL0 S nm ps num tu, none, 0⟩, .string tx] W (RetCp (relL S nm ps num tu sh) W)) := fun W e => by
              have := rsealed_any (shareK sh) ⟨relL0 S nm ps num tu, none, 0⟩ tx W hsk hl0 (by have := hT.out; show tu.size ≤ _; omega) HTZ.out
              rw [HTX.out] at this ⊢
              exact this
            have HW : Hid (∀ W ba bc, Ext w W → Byts W ba (relL S nm ps num tu sh).bo → FrB w ba → Calls Try.prog 78 #[.agg #[.bool false, .slice al n c], lval ⟨relL S nm ps num tu sh, ba, bc⟩] W (RetV (S.chain ++ [chained S (relL S nm ps num tu sh)]) (Grow w al xs) W)) := fun W ba bc e hb hf => by
              have hz : (openR S nm ps num 0).1.size ≤ 2000 := by rw [← HTX.out]; exact HTZ.out
              have := HR.out.put false c ⟨relL S nm ps num tu sh, ba, bc⟩ W e (sealed_ok hl0 hz) (sealed_small hz (by have := hN.out; exact this) (by have := hT.out; exact this)) hb hf
              rw [← HN.out] at this
              exact this
            clear hw8 he8 o8 hs8 he17 he18 hl0 hsk E7
            refine l55_16 HJ0 HLB hlb hsh HD HS HW _ (by rfl) rfl rfl rfl rfl rfl ?_
            intro vs w9 ls9 hl9 hJ9 e0 e1 e2 e3 e4 e5 e6 e7 e9
            simp only [Act.put, List.setIfInBounds_toArray, List.set_cons_zero, List.set_cons_succ]
            rw [e0, e1, e3, e4, e5, e9]
            obtain ⟨ra, rc, ys, hv, h1, h2, h3, h6, h4⟩ := hJ9.1.ac (hl9 7 (by omega))
            have hb := h4 (hl9 8 (by omega))
            rw [hv]
            obtain ⟨y0, y1⟩ := obj_cells2 hb
            replace y0 := y0 w9 (Ext.refl _)
            replace y1 := y1 w9 (Ext.refl _)
            have HXX := Lib.hid hJ9.1.x; have HL1 := Lib.hid h1; have HL2 := Lib.hid h2; have HL3 := Lib.hid h3; have HL6 := Lib.hid h6
            obtain ⟨L, hL⟩ : ∃ L, L = ys.length := ⟨_, rfl⟩
            rw [← hL] at y1 ⊢
            have HLL := Lib.hid hL
            clear hJ9 hl9 e0 e1 e2 e3 e4 e5 e6 e7 e9 hb h1 h2 h3 h4 h6 hv hL z0 z1 f1 v0 v1 E1
            go_wp2_with (fail)
            refine bodyPost_ret (v := .tuple #[rv false ra L rc, .int .i64 0]) (by simp [results, Try.results55, go_sem, y0, y1]) rfl ⟨ra, rc, ys, by rw [HLL.out, H4.out], HXX.out, HL1.out, HL2.out, by rw [HL3.out, HCHN.out], HL6.out⟩
      · have he2 : Hid (tu = nm) := by rw [Hid]; exact of_decide_eq_true T2
        have s2 := str_beq tu nm
        rw [T2] at s2
        go_wp2_with (fail)
        refine bodyPost_ret (v := .tuple #[rv false al n c, .int .i64 6]) (by simp [results, Try.results55, go_sem, z0 _ he15, z1 _ he15]) rfl (HEND.out w5 6 he15 (S2.out (by simp) hfd.out he2.out) (by omega))
  · have h0' : (en == 0) = false := by simpa using h0
    go_wp2_with (fail)
    refine bodyPost_ret (v := .tuple #[rv false al n c, .int .i64 en]) (by simp [results, Try.results55, go_sem, z0 _ he2, z1 _ he2]) rfl (HEND.out w2 en he2 (S0.out en (by simp) h0) h0)
end Go.Proofs.Ytlahejakcgoheaa
