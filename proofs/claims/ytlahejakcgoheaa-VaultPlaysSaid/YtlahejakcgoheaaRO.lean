/-
  Walks of the reference: Chain.
-/
import Derived.Test.YtlahejakcgoheaaRN
import Derived.Test.YtlahejakcgoheaaRM
set_option linter.unusedVariables false
set_option linter.unusedSimpArgs false
namespace Go.Proofs.Ytlahejakcgoheaa
open Go.RowKit
def cur3 {α : Type} (l2 l6 l8 : Bool) (v0 v2 v6 v8 : α) : α := bif l8 then v8 else bif l6 then v6 else bif l2 then v2 else v0
def live (made used : Bool) (v : Value) (bs : List UInt8) : Option (Value × List UInt8) := bif made && !used then some (v, bs) else none
/-- A row of bytes that grows, beside up to three others that wait for it, all of one's own. -/
structure JB (w0 w : World) (cur : Value) (cs : List UInt8) (p1 p2 p3 : Option (Value × List UInt8)) : Prop where
  x : Ext w0 w
  own : OwnB w w0.heap.size cur cs
  q1 : ∀ v bs, p1 = some (v, bs) → OwnB w w0.heap.size v bs ∧ disj cur v
  q2 : ∀ v bs, p2 = some (v, bs) → OwnB w w0.heap.size v bs ∧ disj cur v
  q3 : ∀ v bs, p3 = some (v, bs) → OwnB w w0.heap.size v bs ∧ disj cur v
section
variable {w0 w : World} {cur : Value} {cs : List UInt8} {p1 p2 p3 : Option (Value × List UInt8)}
theorem JB.start (h : Ext w0 w) (ho : OwnB w w0.heap.size cur cs) : JB w0 w cur cs none none none := ⟨h, ho, fun _ _ e => (by cases e), fun _ _ e => (by cases e), fun _ _ e => (by cases e)⟩
theorem JB.ext {w' : World} (h : JB w0 w cur cs p1 p2 p3) (e : Ext w w') : JB w0 w' cur cs p1 p2 p3 :=
  ⟨h.x.trans e, h.own.ext e, fun v bs q => ⟨(h.q1 v bs q).1.ext e, (h.q1 v bs q).2⟩, fun v bs q => ⟨(h.q2 v bs q).1.ext e, (h.q2 v bs q).2⟩, fun v bs q => ⟨(h.q3 v bs q).1.ext e, (h.q3 v bs q).2⟩⟩
theorem JB.swap2 (h : JB w0 w cur cs p1 p2 p3) : JB w0 w cur cs p2 p1 p3 := ⟨h.x, h.own, h.q2, h.q1, h.q3⟩
theorem JB.swap3 (h : JB w0 w cur cs p1 p2 p3) : JB w0 w cur cs p3 p2 p1 := ⟨h.x, h.own, h.q3, h.q2, h.q1⟩
theorem live_some {u : Bool} {v v' : Value} {bs bs' : List UInt8} (h : live true u v bs = some (v', bs')) : v = v' ∧ bs = bs' := by
  cases u with
  | true => cases h
  | false => cases h; exact ⟨rfl, rfl⟩
theorem JB.make1 {w' : World} {v : Value} {bs : List UInt8} (h : JB w0 w cur cs none p2 p3) (e : Ext w w') (ho : OwnB w' w.heap.size v bs) (u : Bool) : JB w0 w' cur cs (live true u v bs) p2 p3 := by
  have h' := h.ext e
  refine ⟨h'.x, h'.own, fun v' bs' q => ?_, h'.q2, h'.q3⟩
  obtain ⟨rfl, rfl⟩ := live_some q
  exact ⟨ho.mono h.x.size, disj.made h.own ho (Nat.le_refl _)⟩
theorem JB.make2 {w' : World} {v : Value} {bs : List UInt8} (h : JB w0 w cur cs p1 none p3) (e : Ext w w') (ho : OwnB w' w.heap.size v bs) (u : Bool) : JB w0 w' cur cs p1 (live true u v bs) p3 := (h.swap2.make1 e ho u).swap2
theorem JB.make3 {w' : World} {v : Value} {bs : List UInt8} (h : JB w0 w cur cs p1 p2 none) (e : Ext w w') (ho : OwnB w' w.heap.size v bs) (u : Bool) : JB w0 w' cur cs p1 p2 (live true u v bs) := (h.swap3.make1 e ho u).swap3
theorem JB.joinF (h : JB w0 w cur cs p1 p2 p3) (a : Option Addr) (ys : List UInt8) (c : Nat) (hx : Byts w a ys) (hn : cs.length + ys.length ≤ 140737488355328) :
    ∃ v' w', (Builtin.append_ #[23, 23] 23 #[cur, .slice a ys.length c]).run Try.prog w = .ok v' w' ∧ JB w0 w' v' (cs ++ ys) p1 p2 p3 := by
  obtain ⟨v', w', r1, r2, r3, r4⟩ := app_beside w w0.heap.size 23 cur cs ys a c h.own hx hn h.x.size
  exact ⟨v', w', r1, r3 _ h.x (Nat.le_refl _), r2, fun v bs q => r4 _ _ (h.q1 v bs q).1 (h.q1 v bs q).2, fun v bs q => r4 _ _ (h.q2 v bs q).1 (h.q2 v bs q).2, fun v bs q => r4 _ _ (h.q3 v bs q).1 (h.q3 v bs q).2⟩
theorem JB.drop1 (h : JB w0 w cur cs p1 p2 p3) : JB w0 w cur cs none p2 p3 := ⟨h.x, h.own, fun _ _ e => (by cases e), h.q2, h.q3⟩
theorem JB.join1 {v : Value} {ys : List UInt8} (h : JB w0 w cur cs (some (v, ys)) p2 p3) (hn : cs.length + ys.length ≤ 140737488355328) :
    ∃ v' w', (Builtin.append_ #[23, 23] 23 #[cur, v]).run Try.prog w = .ok v' w' ∧ JB w0 w' v' (cs ++ ys) none p2 p3 := by
  have hv := (h.q1 v ys rfl).1
  obtain ⟨a, c, rfl⟩ := hv.slice
  exact h.drop1.joinF a ys c hv.byts.1 hn
theorem JB.join2 {v : Value} {ys : List UInt8} (h : JB w0 w cur cs p1 (some (v, ys)) p3) (hn : cs.length + ys.length ≤ 140737488355328) :
    ∃ v' w', (Builtin.append_ #[23, 23] 23 #[cur, v]).run Try.prog w = .ok v' w' ∧ JB w0 w' v' (cs ++ ys) p1 none p3 := by
  obtain ⟨v', w', r1, r2⟩ := h.swap2.join1 hn
  exact ⟨v', w', r1, r2.swap2⟩
theorem JB.join3 {v : Value} {ys : List UInt8} (h : JB w0 w cur cs p1 p2 (some (v, ys))) (hn : cs.length + ys.length ≤ 140737488355328) :
    ∃ v' w', (Builtin.append_ #[23, 23] 23 #[cur, v]).run Try.prog w = .ok v' w' ∧ JB w0 w' v' (cs ++ ys) p1 p2 none := by
  obtain ⟨v', w', r1, r2⟩ := h.swap3.join1 hn
  exact ⟨v', w', r1, r2.swap3⟩
end
set_option maxRecDepth 100000 in
set_option maxHeartbeats 4000000 in
theorem l32_2 {bx : Nat} {xs : List UInt8} {ki : ByteArray} {v0 : Value} {wb w0 : World} (HX : Hid (Ext wb w0)) (HO : Hid (OwnB w0 wb.heap.size v0 xs)) (h2 : ∀ W, Ext wb W → W.cell? ⟨bx, 2, none⟩ = some (.string ki)) (hki : ki.size ≤ 1000) (hxl : xs.length ≤ 1000000) {Q : Exit → Act → World → Prop} (aZ : Act) (hsz : aZ.tmps.size = 57) (o3 : aZ.tmps[3]?.getD undef = .pointer (some ⟨bx, 0, none⟩)) (o5 : aZ.tmps[5]?.getD undef = v0)
    (hend : ∀ (vs : Nat → Value) (w9 : World) (ls9 : Nat → Bool), (∀ j : Nat, j < 10 → ls9 j = true) → (JB wb w9 (cur3 (ls9 2) (ls9 6) (ls9 8) v0 (vs 2) (vs 6) (vs 8)) (cur3 (ls9 2) (ls9 6) (ls9 8) xs (xs ++ [0]) (xs ++ [0] ++ ki.data.toList) (xs ++ [0] ++ ki.data.toList ++ [0])) (live (ls9 1) (ls9 2) (vs 1) [0]) (live (ls9 5) (ls9 6) (vs 5) ki.data.toList) (live (ls9 7) (ls9 8) (vs 7) [0]) ∧ (ls9 8 = true → ls9 6 = true) ∧ (ls9 6 = true → ls9 2 = true) ∧ (ls9 9 = true → ls9 8 = true ∧ vs 9 = vs 8)) → (vs 0 = v0) → (True) → (True) → (vs 3 = .pointer (some ⟨bx, 2, none⟩)) → (vs 4 = .string ki) → (True) → (True) → (True) → (True) → (True) → Q .normal ((((((((((aZ.put (some 15) (vs 0)).put (some 16) (vs 1)).put (some 17) (vs 2)).put (some 18) (vs 3)).put (some 19) (vs 4)).put (some 20) (vs 5)).put (some 21) (vs 6)).put (some 22) (vs 7)).put (some 23) (vs 8)).put (some 5) (vs 9)) w9) : (regOf Try.f32 2).wp Try.prog Q aZ w0 := by
  conv => arg 2; whnf
  refine wp_region_said3 (fun i v wz => match i with
    | 0 => v = v0
    | 1 => True
    | 2 => True
    | 3 => v = .pointer (some ⟨bx, 2, none⟩)
    | 4 => v = .string ki
    | 5 => True
    | 6 => True
    | 7 => True
    | 8 => True
    | _ => True) (fun ls vs wz => JB wb wz (cur3 (ls 2) (ls 6) (ls 8) v0 (vs 2) (vs 6) (vs 8)) (cur3 (ls 2) (ls 6) (ls 8) xs (xs ++ [0]) (xs ++ [0] ++ ki.data.toList) (xs ++ [0] ++ ki.data.toList ++ [0])) (live (ls 1) (ls 2) (vs 1) [0]) (live (ls 5) (ls 6) (vs 5) ki.data.toList) (live (ls 7) (ls 8) (vs 7) [0]) ∧ (ls 8 = true → ls 6 = true) ∧ (ls 6 = true → ls 2 = true) ∧ (ls 9 = true → ls 8 = true ∧ vs 9 = vs 8)) (by kernel_rfl) (by kernel_rfl) (by rw [hsz]; kernel_rfl) ?_ ?_ ?_
  · exact ⟨(JB.start HX.out HO.out).ext (Ext.refl _).drew, fun e => (by cases e), fun e => (by cases e), fun e => (by cases e)⟩
  · refine ⟨?_, ?_, ?_, ?_, ?_, ?_, ?_, ?_, ?_, ?_, trivial⟩
    · intro ls vs a w1 hi hJ hold hdep K hK
      have q5 : a.tmps[5]?.getD undef = v0 := (hold 5 (by kernel_rfl)).trans o5
      rw [if_pos (by rfl)]
      clear hold hdep hend o3 o5
      have HJ := Lib.hid hJ
      clear hJ
      go_simp
      exact hK _ _ (fun _ _ _ h => h) HJ.out rfl
    · intro ls vs a w1 hi hJ hold hdep K hK
      rw [if_pos (by rfl)]
      clear hold hdep hend o3 o5
      have HJ := Lib.hid hJ
      clear hJ
      go_simp
      obtain ⟨j1, j2, j3, j4⟩ := HJ.out
      have hi1 : ls 1 = false := hi
      rw [hi1] at j1
      exact hK _ _ (fun _ _ _ h => h) ⟨j1.make1 ((Ext.refl w1).alloc _) (own_lit1 w1 0) (ls 2), j2, j3, j4⟩ trivial
    · intro ls vs a w1 hi hJ hold hdep K hK
      have q15 : a.tmps[15]?.getD undef = v0 := (hdep 0 15 (by kernel_rfl) (by kernel_rfl)).2.1.trans (hdep 0 15 (by kernel_rfl) (by kernel_rfl)).2.2
      obtain ⟨hl1, q16, p16⟩ := hdep 1 16 (by kernel_rfl) (by kernel_rfl)
      clear hold hdep hend o3 o5
      have HJ := Lib.hid hJ
      clear hJ
      obtain ⟨j1, j2, j3, j4⟩ := HJ.out
      have hi2 : ls 2 = false := hi
      have hi6 : ls 6 = false := by cases e : ls 6 with | false => rfl | true => have := j3 e; rw [hi2] at this; cases this
      have hi8 : ls 8 = false := by cases e : ls 8 with | false => rfl | true => have := j2 e; rw [hi6] at this; cases this
      rw [hl1, hi2, hi6, hi8] at j1
      obtain ⟨v', w', r1', r2'⟩ := j1.join1 (by show xs.length + _ ≤ _; simp; omega)
      dsimp only [cur3, cond_false, cond_true] at r1'
      refine step_app (by rfl) (.tmp 15) (.tmp 16) 23 (by rfl) _ _ (by simpa [Act.eval, Array.getD_eq_getD_getElem?] using q15) (by simpa [Act.eval, Array.getD_eq_getD_getElem?] using q16) (fun v3 w3 => v3 = v' ∧ w3 = w') ⟨_, _, r1', rfl, rfl⟩ ?_
      rintro v3 w3 ⟨rfl, rfl⟩
      refine hK _ _ (fun _ _ _ h => h) ⟨?_, j2, fun _ => rfl, fun e => (by have := (j4 e).1; rw [hi8] at this; cases this)⟩ trivial
      show JB wb _ (cur3 true (ls 6) (ls 8) v0 v3 (vs 6) (vs 8)) (cur3 true (ls 6) (ls 8) _ _ _ _) (live (ls 1) true (vs 1) [0]) (live (ls 5) (ls 6) (vs 5) _) (live (ls 7) (ls 8) (vs 7) [0])
      rw [hl1, hi6, hi8]; exact r2'
    · intro ls vs a w1 hi hJ hold hdep K hK
      have q3 : a.tmps[3]?.getD undef = .pointer (some ⟨bx, 0, none⟩) := (hold 3 (by kernel_rfl)).trans o3
      rw [if_pos (by rfl)]
      clear hold hdep hend o3 o5
      have HJ := Lib.hid hJ
      clear hJ
      go_simp
      exact hK _ _ (fun _ _ _ h => h) HJ.out rfl
    · intro ls vs a w1 hi hJ hold hdep K hK
      have q18 : a.tmps[18]?.getD undef = .pointer (some ⟨bx, 2, none⟩) := (hdep 3 18 (by kernel_rfl) (by kernel_rfl)).2.1.trans (hdep 3 18 (by kernel_rfl) (by kernel_rfl)).2.2
      rw [if_pos (by rfl)]
      clear hold hdep hend o3 o5
      have HJ := Lib.hid hJ
      clear hJ
      have hz1 := HJ.out.1.x
      go_simp
      exact hK _ _ (fun _ _ _ h => h) HJ.out rfl
    · intro ls vs a w1 hi hJ hold hdep K hK
      have q19 : a.tmps[19]?.getD undef = .string ki := (hdep 4 19 (by kernel_rfl) (by kernel_rfl)).2.1.trans (hdep 4 19 (by kernel_rfl) (by kernel_rfl)).2.2
      rw [if_pos (by rfl)]
      clear hold hdep hend o3 o5
      have HJ := Lib.hid hJ
      clear hJ
      go_simp
      obtain ⟨j1, j2, j3, j4⟩ := HJ.out
      have hi1 : ls 5 = false := hi
      rw [hi1] at j1
      obtain ⟨e1, o1, z1⟩ := bytesW_facts w1 ki (by unfold maxLen; omega)
      exact hK _ _ (fun _ _ _ h => h) ⟨j1.make2 e1 o1 (ls 6), j2, j3, j4⟩ trivial
    · intro ls vs a w1 hi hJ hold hdep K hK
      obtain ⟨hl2, q17, p17⟩ := hdep 2 17 (by kernel_rfl) (by kernel_rfl)
      obtain ⟨hl5, q20, p20⟩ := hdep 5 20 (by kernel_rfl) (by kernel_rfl)
      clear hold hdep hend o3 o5
      have HJ := Lib.hid hJ
      clear hJ
      obtain ⟨j1, j2, j3, j4⟩ := HJ.out
      have hi6 : ls 6 = false := hi
      have hi8 : ls 8 = false := by cases e : ls 8 with | false => rfl | true => have := j2 e; rw [hi6] at this; cases this
      rw [hl2, hl5, hi6, hi8] at j1
      obtain ⟨v', w', r1', r2'⟩ := j1.join2 (by show (xs ++ [0]).length + _ ≤ _; simp; omega)
      dsimp only [cur3, cond_false, cond_true] at r1'
      refine step_app (by rfl) (.tmp 17) (.tmp 20) 23 (by rfl) _ _ (by simpa [Act.eval, Array.getD_eq_getD_getElem?] using q17) (by simpa [Act.eval, Array.getD_eq_getD_getElem?] using q20) (fun v3 w3 => v3 = v' ∧ w3 = w') ⟨_, _, r1', rfl, rfl⟩ ?_
      rintro v3 w3 ⟨rfl, rfl⟩
      refine hK _ _ (fun _ _ _ h => h) ⟨?_, fun _ => rfl, fun _ => hl2, fun e => (by have := (j4 e).1; rw [hi8] at this; cases this)⟩ trivial
      show JB wb _ (cur3 (ls 2) true (ls 8) v0 (vs 2) v3 (vs 8)) (cur3 (ls 2) true (ls 8) _ _ _ _) (live (ls 1) (ls 2) (vs 1) [0]) (live (ls 5) true (vs 5) _) (live (ls 7) (ls 8) (vs 7) [0])
      rw [hl2, hl5, hi8]; exact r2'
    · intro ls vs a w1 hi hJ hold hdep K hK
      rw [if_pos (by rfl)]
      clear hold hdep hend o3 o5
      have HJ := Lib.hid hJ
      clear hJ
      go_simp
      obtain ⟨j1, j2, j3, j4⟩ := HJ.out
      have hi1 : ls 7 = false := hi
      rw [hi1] at j1
      exact hK _ _ (fun _ _ _ h => h) ⟨j1.make3 ((Ext.refl w1).alloc _) (own_lit1 w1 0) (ls 8), j2, j3, j4⟩ trivial
    · intro ls vs a w1 hi hJ hold hdep K hK
      obtain ⟨hl6, q21, p21⟩ := hdep 6 21 (by kernel_rfl) (by kernel_rfl)
      obtain ⟨hl7, q22, p22⟩ := hdep 7 22 (by kernel_rfl) (by kernel_rfl)
      clear hold hdep hend o3 o5
      have HJ := Lib.hid hJ
      clear hJ
      obtain ⟨j1, j2, j3, j4⟩ := HJ.out
      have hi8 : ls 8 = false := hi
      rw [hl6, hl7, hi8] at j1
      obtain ⟨v', w', r1', r2'⟩ := j1.join3 (by show (xs ++ [0] ++ ki.data.toList).length + _ ≤ _; simp; omega)
      dsimp only [cur3, cond_false, cond_true] at r1'
      refine step_app (by rfl) (.tmp 21) (.tmp 22) 23 (by rfl) _ _ (by simpa [Act.eval, Array.getD_eq_getD_getElem?] using q21) (by simpa [Act.eval, Array.getD_eq_getD_getElem?] using q22) (fun v3 w3 => v3 = v' ∧ w3 = w') ⟨_, _, r1', rfl, rfl⟩ ?_
      rintro v3 w3 ⟨rfl, rfl⟩
      refine hK _ _ (fun _ _ _ h => h) ⟨?_, fun _ => hl6, j3, fun e => (by have := (j4 e).1; rw [hi8] at this; cases this)⟩ trivial
      show JB wb _ (cur3 (ls 2) (ls 6) true v0 (vs 2) (vs 6) v3) (cur3 (ls 2) (ls 6) true _ _ _ _) (live (ls 1) (ls 2) (vs 1) [0]) (live (ls 5) (ls 6) (vs 5) _) (live (ls 7) true (vs 7) [0])
      rw [hl6, hl7]; exact r2'
    · intro ls vs a w1 hi hJ hold hdep K hK
      obtain ⟨hl8, q23, p23⟩ := hdep 8 23 (by kernel_rfl) (by kernel_rfl)
      rw [if_pos (by rfl)]
      clear hold hdep hend o3 o5
      have HJ := Lib.hid hJ
      clear hJ
      obtain ⟨j1, j2, j3, j4⟩ := HJ.out
      go_simp
      exact hK _ _ (fun _ _ _ h => h) ⟨j1, j2, j3, fun _ => ⟨hl8, rfl⟩⟩ trivial
  · intro vs w9 ls9 hl9 hJ9 hφ
    have e0 := hφ 0 (by kernel_rfl)
    have e1 := hφ 1 (by kernel_rfl)
    have e2 := hφ 2 (by kernel_rfl)
    have e3 := hφ 3 (by kernel_rfl)
    have e4 := hφ 4 (by kernel_rfl)
    have e5 := hφ 5 (by kernel_rfl)
    have e6 := hφ 6 (by kernel_rfl)
    have e7 := hφ 7 (by kernel_rfl)
    have e8 := hφ 8 (by kernel_rfl)
    have e9 := hφ 9 (by kernel_rfl)
    have hq := hend vs w9 ls9 hl9 hJ9 e0 e1 e2 e3 e4 e5 e6 e7 e8 e9
    simp only [Act.put] at hq
    simp only [putAll, Act.put]
    exact hq
set_option maxRecDepth 100000 in
set_option maxHeartbeats 4000000 in
theorem l32_8 {bx n0 tg bc q m : Nat} {cs tb bo : List UInt8} {ba : Option Addr} {v0 : Value} {wb w0 : World} (HX : Hid (Ext wb w0)) (HO : Hid (OwnB w0 wb.heap.size v0 cs)) (h8 : ∀ W, Ext wb W → W.cell? ⟨bx, 8, none⟩ = some (.int .u64 (tg : Int))) (h7 : ∀ W, Ext wb W → W.cell? ⟨bx, 7, none⟩ = some (.slice ba bo.length bc)) (HB : Hid (Byts wb ba bo)) (HTB : Hid (∀ W, Ext wb W → Calls Try.prog 59 #[.int .u64 (tg : Int), .int .i64 8] W (RetB tb W))) (HD : Hid (∀ W a c, Ext wb W → Byts W a (cs ++ tb ++ bo) → Calls Try.prog 15 #[.int .u64 (n0 : Int), .slice a m c] W (Ret (.int .u64 (q : Int)) W))) (HLM : Hid ((cs ++ tb ++ bo).length = m)) (hcl : cs.length ≤ 1000000) (htl : tb.length ≤ 1000000) (hbl : bo.length ≤ 1000000) {Q : Exit → Act → World → Prop} (aZ : Act) (hsz : aZ.tmps.size = 57) (o0 : aZ.tmps[0]?.getD undef = .int .u64 (n0 : Int)) (o3 : aZ.tmps[3]?.getD undef = .pointer (some ⟨bx, 0, none⟩)) (o5 : aZ.tmps[5]?.getD undef = v0)
    (hend : ∀ (vs : Nat → Value) (w9 : World) (ls9 : Nat → Bool), (∀ j : Nat, j < 11 → ls9 j = true) → (JB wb w9 (cur3 (ls9 5) (ls9 8) false v0 (vs 5) (vs 8) v0) (cur3 (ls9 5) (ls9 8) false cs (cs ++ tb) (cs ++ tb ++ bo) cs) (live (ls9 4) (ls9 5) (vs 4) tb) none none ∧ (ls9 8 = true → ls9 5 = true)) → (vs 0 = .int .u64 (n0 : Int)) → (vs 1 = v0) → (vs 2 = .pointer (some ⟨bx, 8, none⟩)) → (vs 3 = .int .u64 (tg : Int)) → (True) → (True) → (vs 6 = .pointer (some ⟨bx, 7, none⟩)) → (vs 7 = .slice ba bo.length bc) → (True) → (vs 9 = .int .u64 (q : Int)) → (vs 10 = .int .u64 (q : Int)) → Q .normal (((((((((((aZ.put (some 47) (vs 0)).put (some 48) (vs 1)).put (some 49) (vs 2)).put (some 50) (vs 3)).put (some 51) (vs 4)).put (some 52) (vs 5)).put (some 53) (vs 6)).put (some 54) (vs 7)).put (some 55) (vs 8)).put (some 56) (vs 9)).put (some 4) (vs 10)) w9) : (regOf Try.f32 8).wp Try.prog Q aZ w0 := by
  conv => arg 2; whnf
  refine wp_region_said3 (fun i v wz => match i with
    | 0 => v = .int .u64 (n0 : Int)
    | 1 => v = v0
    | 2 => v = .pointer (some ⟨bx, 8, none⟩)
    | 3 => v = .int .u64 (tg : Int)
    | 4 => True
    | 5 => True
    | 6 => v = .pointer (some ⟨bx, 7, none⟩)
    | 7 => v = .slice ba bo.length bc
    | 8 => True
    | 9 => v = .int .u64 (q : Int)
    | _ => v = .int .u64 (q : Int)) (fun ls vs wz => JB wb wz (cur3 (ls 5) (ls 8) false v0 (vs 5) (vs 8) v0) (cur3 (ls 5) (ls 8) false cs (cs ++ tb) (cs ++ tb ++ bo) cs) (live (ls 4) (ls 5) (vs 4) tb) none none ∧ (ls 8 = true → ls 5 = true)) (by kernel_rfl) (by kernel_rfl) (by rw [hsz]; kernel_rfl) ?_ ?_ ?_
  · exact ⟨(JB.start HX.out HO.out).ext (Ext.refl _).drew, fun e => (by cases e)⟩
  · refine ⟨?_, ?_, ?_, ?_, ?_, ?_, ?_, ?_, ?_, ?_, ?_, trivial⟩
    · intro ls vs a w1 hi hJ hold hdep K hK
      have q0 : a.tmps[0]?.getD undef = .int .u64 (n0 : Int) := (hold 0 (by kernel_rfl)).trans o0
      rw [if_pos (by rfl)]
      clear hold hdep hend o0 o3 o5
      have HJ := Lib.hid hJ
      clear hJ
      go_simp
      exact hK _ _ (fun _ _ _ h => h) HJ.out rfl
    · intro ls vs a w1 hi hJ hold hdep K hK
      have q5 : a.tmps[5]?.getD undef = v0 := (hold 5 (by kernel_rfl)).trans o5
      rw [if_pos (by rfl)]
      clear hold hdep hend o0 o3 o5
      have HJ := Lib.hid hJ
      clear hJ
      go_simp
      exact hK _ _ (fun _ _ _ h => h) HJ.out rfl
    · intro ls vs a w1 hi hJ hold hdep K hK
      have q3 : a.tmps[3]?.getD undef = .pointer (some ⟨bx, 0, none⟩) := (hold 3 (by kernel_rfl)).trans o3
      rw [if_pos (by rfl)]
      clear hold hdep hend o0 o3 o5
      have HJ := Lib.hid hJ
      clear hJ
      go_simp
      exact hK _ _ (fun _ _ _ h => h) HJ.out rfl
    · intro ls vs a w1 hi hJ hold hdep K hK
      have q49 : a.tmps[49]?.getD undef = .pointer (some ⟨bx, 8, none⟩) := (hdep 2 49 (by kernel_rfl) (by kernel_rfl)).2.1.trans (hdep 2 49 (by kernel_rfl) (by kernel_rfl)).2.2
      rw [if_pos (by rfl)]
      clear hold hdep hend o0 o3 o5
      have HJ := Lib.hid hJ
      clear hJ
      have hz1 := HJ.out.1.x
      go_simp
      exact hK _ _ (fun _ _ _ h => h) HJ.out rfl
    · intro ls vs a w1 hi hJ hold hdep K hK
      have q50 : a.tmps[50]?.getD undef = .int .u64 (tg : Int) := (hdep 3 50 (by kernel_rfl) (by kernel_rfl)).2.1.trans (hdep 3 50 (by kernel_rfl) (by kernel_rfl)).2.2
      rw [if_pos (by rfl)]
      clear hold hdep hend o0 o3 o5
      have HJ := Lib.hid hJ
      clear hJ
      go_simp
      obtain ⟨j1, j2⟩ := HJ.out
      have hi4 : ls 4 = false := hi
      rw [hi4] at j1
      go_at_call 59
      (with_reducible refine (HTB.out _ j1.x).mono ?_); rintro e w20 ⟨a', c', rfl, he, hb⟩
      exact hK _ _ (fun _ _ _ h => h) ⟨j1.make1 he hb (ls 5), j2⟩ trivial
    · intro ls vs a w1 hi hJ hold hdep K hK
      have q48 : a.tmps[48]?.getD undef = v0 := (hdep 1 48 (by kernel_rfl) (by kernel_rfl)).2.1.trans (hdep 1 48 (by kernel_rfl) (by kernel_rfl)).2.2
      obtain ⟨hl4, q51, p51⟩ := hdep 4 51 (by kernel_rfl) (by kernel_rfl)
      clear hold hdep hend o0 o3 o5
      have HJ := Lib.hid hJ
      clear hJ
      obtain ⟨j1, j2⟩ := HJ.out
      have hi5 : ls 5 = false := hi
      have hi8 : ls 8 = false := by cases e : ls 8 with | false => rfl | true => have := j2 e; rw [hi5] at this; cases this
      rw [hl4, hi5, hi8] at j1
      obtain ⟨v', w', r1', r2'⟩ := j1.join1 (by show cs.length + _ ≤ _; omega)
      dsimp only [cur3, cond_false, cond_true] at r1'
      refine step_app (by rfl) (.tmp 48) (.tmp 51) 23 (by rfl) _ _ (by simpa [Act.eval, Array.getD_eq_getD_getElem?] using q48) (by simpa [Act.eval, Array.getD_eq_getD_getElem?] using q51) (fun v3 w3 => v3 = v' ∧ w3 = w') ⟨_, _, r1', rfl, rfl⟩ ?_
      rintro v3 w3 ⟨rfl, rfl⟩
      refine hK _ _ (fun _ _ _ h => h) ⟨?_, fun _ => rfl⟩ trivial
      show JB wb _ (cur3 true (ls 8) false v0 v3 (vs 8) v0) (cur3 true (ls 8) false _ _ _ _) (live (ls 4) true (vs 4) tb) none none
      rw [hl4, hi8]; exact r2'
    · intro ls vs a w1 hi hJ hold hdep K hK
      have q3 : a.tmps[3]?.getD undef = .pointer (some ⟨bx, 0, none⟩) := (hold 3 (by kernel_rfl)).trans o3
      rw [if_pos (by rfl)]
      clear hold hdep hend o0 o3 o5
      have HJ := Lib.hid hJ
      clear hJ
      go_simp
      exact hK _ _ (fun _ _ _ h => h) HJ.out rfl
    · intro ls vs a w1 hi hJ hold hdep K hK
      have q53 : a.tmps[53]?.getD undef = .pointer (some ⟨bx, 7, none⟩) := (hdep 6 53 (by kernel_rfl) (by kernel_rfl)).2.1.trans (hdep 6 53 (by kernel_rfl) (by kernel_rfl)).2.2
      rw [if_pos (by rfl)]
      clear hold hdep hend o0 o3 o5
      have HJ := Lib.hid hJ
      clear hJ
      have hz1 := HJ.out.1.x
      go_simp
      exact hK _ _ (fun _ _ _ h => h) HJ.out rfl
    · intro ls vs a w1 hi hJ hold hdep K hK
      obtain ⟨hl5, q52, p52⟩ := hdep 5 52 (by kernel_rfl) (by kernel_rfl)
      have q54 : a.tmps[54]?.getD undef = .slice ba bo.length bc := (hdep 7 54 (by kernel_rfl) (by kernel_rfl)).2.1.trans (hdep 7 54 (by kernel_rfl) (by kernel_rfl)).2.2
      clear hold hdep hend o0 o3 o5
      have HJ := Lib.hid hJ
      clear hJ
      obtain ⟨j1, j2⟩ := HJ.out
      have hi8 : ls 8 = false := hi
      rw [hl5, hi8] at j1
      obtain ⟨v', w', r1', r2'⟩ := j1.joinF ba bo bc (HB.out.ext j1.x) (by show (cs ++ tb).length + _ ≤ _; rw [List.length_append]; omega)
      dsimp only [cur3, cond_false, cond_true] at r1'
      refine step_app (by rfl) (.tmp 52) (.tmp 54) 23 (by rfl) _ _ (by simpa [Act.eval, Array.getD_eq_getD_getElem?] using q52) (by simpa [Act.eval, Array.getD_eq_getD_getElem?] using q54) (fun v3 w3 => v3 = v' ∧ w3 = w') ⟨_, _, r1', rfl, rfl⟩ ?_
      rintro v3 w3 ⟨rfl, rfl⟩
      refine hK _ _ (fun _ _ _ h => h) ⟨?_, fun _ => hl5⟩ trivial
      show JB wb _ (cur3 (ls 5) true false v0 (vs 5) v3 v0) (cur3 (ls 5) true false _ _ _ _) (live (ls 4) (ls 5) (vs 4) tb) none none
      rw [hl5]
      have : live (ls 4) true (vs 4) tb = none := by cases ls 4 <;> rfl
      rw [this] at r2' ⊢; exact r2'
    · intro ls vs a w1 hi hJ hold hdep K hK
      have q47 : a.tmps[47]?.getD undef = .int .u64 (n0 : Int) := (hdep 0 47 (by kernel_rfl) (by kernel_rfl)).2.1.trans (hdep 0 47 (by kernel_rfl) (by kernel_rfl)).2.2
      obtain ⟨hl8, q55, p55⟩ := hdep 8 55 (by kernel_rfl) (by kernel_rfl)
      rw [if_pos (by rfl)]
      clear hold hdep hend o0 o3 o5
      have HJ := Lib.hid hJ
      clear hJ
      obtain ⟨j1, j2⟩ := HJ.out
      have j3 := j1.own
      rw [hl8] at j3
      have j4 : OwnB w1 wb.heap.size (vs 8) (cs ++ tb ++ bo) := j3
      obtain ⟨a', c', hv⟩ := j4.slice
      rw [HLM.out] at hv
      rw [hv] at q55 j4
      go_simp
      go_at_call 15
      (with_reducible refine (HD.out _ a' c' j1.x j4.byts.1).mono ?_); rintro e w20 ⟨rfl, he⟩
      exact hK _ _ (fun _ _ _ h => h) ⟨j1.ext he, j2⟩ rfl
    · intro ls vs a w1 hi hJ hold hdep K hK
      have q56 : a.tmps[56]?.getD undef = .int .u64 (q : Int) := (hdep 9 56 (by kernel_rfl) (by kernel_rfl)).2.1.trans (hdep 9 56 (by kernel_rfl) (by kernel_rfl)).2.2
      rw [if_pos (by rfl)]
      clear hold hdep hend o0 o3 o5
      have HJ := Lib.hid hJ
      clear hJ
      go_simp
      exact hK _ _ (fun _ _ _ h => h) HJ.out rfl
  · intro vs w9 ls9 hl9 hJ9 hφ
    have e0 := hφ 0 (by kernel_rfl)
    have e1 := hφ 1 (by kernel_rfl)
    have e2 := hφ 2 (by kernel_rfl)
    have e3 := hφ 3 (by kernel_rfl)
    have e4 := hφ 4 (by kernel_rfl)
    have e5 := hφ 5 (by kernel_rfl)
    have e6 := hφ 6 (by kernel_rfl)
    have e7 := hφ 7 (by kernel_rfl)
    have e8 := hφ 8 (by kernel_rfl)
    have e9 := hφ 9 (by kernel_rfl)
    have e10 := hφ 10 (by kernel_rfl)
    have hq := hend vs w9 ls9 hl9 hJ9 e0 e1 e2 e3 e4 e5 e6 e7 e8 e9 e10
    simp only [Act.put] at hq
    simp only [putAll, Act.put]
    exact hq
end Go.Proofs.Ytlahejakcgoheaa
