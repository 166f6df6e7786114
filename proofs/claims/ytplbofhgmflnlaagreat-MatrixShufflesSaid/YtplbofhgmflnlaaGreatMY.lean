/-
  Walks: related, and the relation, the resolution, the aliases.
-/
import Derived.Test.YtplbofhgmflnlaaGreatMX
set_option linter.unusedVariables false
set_option linter.unusedSimpArgs false
namespace Go.Proofs.YtplbofhgmflnlaaGreat
open Go.RowKit Go.Maps Go.MapKept Go.ChangeMaps
section
variable {P : Program} (w : World) {ops : Array Oper} {rest : List Oper} {o : Oper} {a : Act} {Q : Exit → Act → World → Prop}
theorem wpList_range_run (hg : o.guard = none) (m : Operand) (t : TypeId) (hop : o.op = Op.range t m) (v : Value) (w' : World) (hrun : (Instr.range t (a.eval m)).run P w = .ok v w')
    (hK : wpList P ops Q rest (a.put o.dst v) w') : wpList P ops Q (o :: rest) a w := by
  refine wpList_plain hg fun K' hK' => ?_
  unfold Oper.wp
  simp [execOp, hop, hrun, Result.andThen]
  exact hK' _ _ hK
theorem wpList_next_run (hg : o.guard = none) (it : Operand) (hop : o.op = Op.next it false) (A : Prop) (B : Value → World → Prop)
    (hrun : (A ∧ (Instr.next (a.eval it) false o.type).run P w = .ok (.tuple #[.bool false]) w) ∨ ∃ v w', (Instr.next (a.eval it) false o.type).run P w = .ok v w' ∧ B v w')
    (hDone : A → wpList P ops Q rest (a.put o.dst (.tuple #[.bool false])) w) (hMore : ∀ v w', B v w' → wpList P ops Q rest (a.put o.dst v) w') : wpList P ops Q (o :: rest) a w := by
  refine wpList_plain hg fun K' hK' => ?_
  unfold Oper.wp
  rcases hrun with ⟨hA, hr⟩ | ⟨v, w', hr, hB⟩
  · simp [execOp, hop, hr, Result.andThen]
    exact hK' _ _ (hDone hA)
  · simp [execOp, hop, hr, Result.andThen]
    exact hK' _ _ (hMore v w' hB)
theorem wpList_delete_run (hg : o.guard = none) (m x : Operand) (t k : TypeId) (hop : o.op = Op.call { callee := Callee.builtin Builtin.delete, args := #[m, x], argTypes := #[t, k] }) (w' : World)
    (hrun : (Builtin.delete_ #[t, k] o.type #[a.eval m, a.eval x]).run P w = .ok (.tuple #[]) w') (hK : wpList P ops Q rest (a.put o.dst (.tuple #[])) w') : wpList P ops Q (o :: rest) a w := by
  refine wpList_plain hg fun K' hK' => ?_
  unfold Oper.wp
  simp [execOp, hop, resolve, invoke, builtin, hrun, Result.andThen]
  exact hK' _ _ hK
end
theorem map_erase {α β : Type} (f : α → β) : ∀ (l : List α) (j : Nat), (l.eraseIdx j).map f = (l.map f).eraseIdx j
  | [], j => by simp
  | a :: l, 0 => by simp
  | a :: l, j + 1 => by simp [map_erase f l j]
theorem Fits.erase {k : TypeId} {es : Array MapEntry} {clock : Nat} {m : List (Value × Value)} (h : Fits k es clock m) (j : Nat) : Fits k (es.eraseIdxIfInBounds j) clock (m.eraseIdx j) := by
  have hl : (es.eraseIdxIfInBounds j).toList = es.toList.eraseIdx j := by
    unfold Array.eraseIdxIfInBounds
    split
    · simp
    · rename_i hlt
      rw [List.eraseIdx_of_length_le (by simpa using hlt)]
  have hsub : (es.toList.eraseIdx j).Sublist es.toList := List.eraseIdx_sublist _ _
  refine ⟨?_, ?_, ?_, ?_, ?_, ?_⟩
  · rw [hl, ← h.kvs, map_erase]
  · intro e he; rw [hl] at he; exact h.keys e (hsub.mem he)
  · exact ((List.eraseIdx_sublist m j).map _).nodup h.nodup
  · exact Nat.lt_of_le_of_lt (List.eraseIdx_sublist m j).length_le h.len
  · rw [hl]; exact (hsub.map _).nodup h.born
  · intro e he; rw [hl] at he; exact h.old e (hsub.mem he)
theorem MapAt.drop {k t e : TypeId} {w : World} {b : Nat} {m : List (Value × Value)} (h : MapAt k w b m) (K : Keyed Tryz.prog k) (ht : Tryz.prog.underlying t = some (.map k e)) {key v0 : Value} (hk : ∃ l, keyOf Tryz.prog k key = some l) {j : Nat} (hj : m[j]? = some (key, v0)) :
    ∃ w', (∀ ty, (Builtin.delete_ #[t, k] ty #[.map (some b), key]).run Tryz.prog w = .ok (.tuple #[]) w') ∧ MapAt k w' b (m.eraseIdx j) ∧ Turned w w' b := by
  obtain ⟨es, clock, hb, hf⟩ := h
  obtain ⟨l, hk⟩ := hk
  rcases K.find w hk es.toList hf.keys with ⟨h1, h2⟩ | ⟨i, e0, h1, h2, h3⟩
  · have hx : (key, v0) ∈ m := List.mem_of_getElem? hj
    rw [← hf.kvs, List.mem_map] at hx
    obtain ⟨x, hx, hxe⟩ := hx
    exact absurd (congrArg Prod.fst hxe) (h2 x hx)
  · obtain ⟨rfl, -⟩ := hf.at_key hj h2 h3
    refine ⟨setBlock w b (.map (es.eraseIdxIfInBounds i) clock), ?_, ⟨_, clock, heap_setBlock_same hb _, hf.erase i⟩, turned_set _ _ _⟩
    intro ty
    simp [Builtin.delete_, run_underlying ht, MapKept.run_getObj_map hb, K.check w _ hk, h1, MapKept.run_setObj_map _ hb, Result.andThen, setBlock]
theorem app_wd (w : World) (B : Nat) (ty : TypeId) (v : Value) (xs ys : List Wd) (a : Option Addr) (c : Nat) (hv : OwnW w B v xs) (hx : Wds w a ys) (hn : xs.length + ys.length ≤ 1000000) (hB : B ≤ w.heap.size) :
    ∃ v' w', (Builtin.append_ #[56, 56] ty #[v, .slice a ys.length c]).run Tryz.prog w = .ok v' w' ∧ OwnW w' B v' (xs ++ ys) ∧ w.grownBy w' v.ownBlock := by
  obtain ⟨i0, hi, hz0, hz1, hz2⟩ := info_parts info75
  exact app_row wdC_len wdC_one Tryz.underlying56 hi hz0 hz1 hz2 rfl (by omega) (by omega) w B ty v xs ys a c hv hx hn hB
theorem wd_one {w : World} {b : Nat} {x : Wd} {T : TypeId} {fz : Nat × Nat} (h : w.heap[b]? = some (.cells #[.int .u16 (x.mask : Int), .bool x.odd] T fz)) : Wds w (some ⟨b, 0, none⟩) [x] := by
  obtain ⟨c0, c1⟩ := obj_cells2 h
  refine .inr ⟨b, 0, rfl, fun i hi j hj => ?_⟩
  obtain rfl : i = 0 := by simp at hi; omega
  match j, hj with
  | 0, _ => exact c0 w (Ext.refl w)
  | 1, _ => exact c1 w (Ext.refl w)
theorem drop_one {ws xs : List Wd} (h : Spans ws xs) {j : Nat} (hj : j < xs.length) (h0 : xs[j] = oneW) : xs.eraseIdx j = xs.filter fun x => x.mask != 0 := by
  have hn := h.nodup
  rw [List.eraseIdx_eq_take_drop_succ]
  conv => rhs; rw [← List.take_append_drop j xs, List.drop_eq_getElem_cons hj, h0]
  have hsplit : xs = xs.take j ++ oneW :: xs.drop (j + 1) := by
    conv => lhs; rw [← List.take_append_drop j xs, List.drop_eq_getElem_cons hj, h0]
  rw [hsplit, List.map_append, List.map_cons, List.nodup_append, List.nodup_cons] at hn
  rw [List.filter_append, List.filter_cons_of_neg (by simp [oneW])]
  rw [List.filter_eq_self.2, List.filter_eq_self.2]
  · intro x hx
    have := hn.2.1.1
    simp only [bne_iff_ne, ne_eq]
    intro e
    exact this (List.mem_map.2 ⟨x, hx, e⟩)
  · intro x hx
    simp only [bne_iff_ne, ne_eq]
    intro e
    exact hn.2.2 _ (List.mem_map.2 ⟨x, hx, rfl⟩) _ (List.mem_cons_self) e
/-- What related answers. -/
def RetRel (ws : List Wd) (u : Wd) (w : World) (e : Ending) (w' : World) : Prop := Ext w w' ∧ ((clashW ws = true ∧ e = .returned (.tuple #[.slice none 0 0, .int .i64 60])) ∨
  (clashW ws = false ∧ ∃ a c l, e = .returned (.tuple #[.slice a l.length c, .int .i64 0]) ∧ RelOf ws u l ∧ OwnW w' w.heap.size (.slice a l.length c) l))
theorem products_clash (a : Option Addr) (ws : List Wd) (c : Nat) (w : World) (h : Wds w a ws) (hn : ws.length ≤ 12) (hm : ∀ x ∈ ws, x.mask < 65536) (hc : clashW ws = true) : Calls Tryz.prog 120 #[.slice a ws.length c] w (Ret (.tuple #[.map none, .int .i64 60]) w) := by
  refine (products_any a ws c w h hn hm).mono ?_
  rintro e w' ⟨he, ⟨-, rfl⟩ | ⟨b, xs, rfl, -, -, hs⟩⟩
  · exact ⟨rfl, he⟩
  · rw [hs.free] at hc; cases hc
theorem products_free (a : Option Addr) (ws : List Wd) (c : Nat) (w : World) (h : Wds w a ws) (hn : ws.length ≤ 12) (hm : ∀ x ∈ ws, x.mask < 65536) (hc : clashW ws = false) :
    Calls Tryz.prog 120 #[.slice a ws.length c] w (fun e w' => ∃ b w3 s cc xs j, e = .returned (.tuple #[.map (some b), .int .i64 0]) ∧ (∀ ty, (Builtin.delete_ #[179, 59] ty #[.map (some b), .int .u16 0]).run Tryz.prog w' = .ok (.tuple #[]) w3) ∧
      (Instr.range 179 (.map (some b))).run Tryz.prog w3 = .ok (.pointer (some ⟨w3.heap.size, 0, none⟩)) (w3.alloc (.mapIter (some b) s #[] cc)) ∧
      Hid (Ext w w3 ∧ Spans ws xs ∧ (∃ h : j < xs.length, xs[j] = oneW) ∧ RngAt 59 (w3.alloc (.mapIter (some b) s #[] cc)) b w3.heap.size ((xs.eraseIdx j).map entW) [])) := by
  refine (products_any a ws c w h hn hm).mono ?_
  rintro e w' ⟨he, ⟨h1, -⟩ | ⟨b, xs, rfl, hb, hmp, hs⟩⟩
  · rw [hc] at h1; cases h1
  · obtain ⟨j, hj, hje⟩ := List.getElem_of_mem ((hs.mem _).2 (one_gens ws))
    obtain ⟨w3, h1, h2, h3⟩ := hmp.drop keyed59 Tryz.underlying179 (key := .int .u16 ((0 : Nat) : Int)) (v0 := wdV oneW) (j := j) (key59 (by omega)) (by rw [List.getElem?_map, List.getElem?_eq_getElem hj, hje]; rfl)
    rw [← map_erase] at h2
    obtain ⟨s, cc, h4, h5⟩ := h2.range Tryz.underlying179
    exact ⟨b, w3, s, cc, xs, j, rfl, h1, h4, Lib.hid ⟨he.turned h3 hb, hs, ⟨hj, hje⟩, h5⟩⟩
theorem Stepped.ext {w w' w0 : World} {r : Nat} (h : Stepped w w' r) (e : Ext w0 w) (hr : w0.heap.size ≤ r) : Ext w0 w' :=
  ⟨h.grown.os.trans e.os, h.grown.tape.trans e.tape, h.grown.output.trans e.output, by rw [h.size]; exact e.size, fun k hk => (h.keep k (by have := e.size; omega) (by omega)).trans (Below.block e k hk)⟩
theorem Stepped.own {α : Type} {w w' : World} {r e sz : Nat} {f : α → List Value} {B : Nat} {v : Value} {xs : List α} (h : Stepped w w' r) (hr : ∃ o : Obj, w.heap[r]? = some o ∧ (∃ x s sn c, o = .mapIter x s sn c)) (ho : OwnF e sz f w B v xs) : OwnF e sz f w' B v xs := by
  refine World.ownsRow.kept ho h.grown ?_
  rcases ho.2 with ⟨rfl, _⟩ | ⟨g, cap, cur, rfl, _, hgb, _⟩
  · exact .inl rfl
  · refine .inr fun e' => ?_
    obtain ⟨o, h1, x, s, sn, c, rfl⟩ := hr
    have : g = r := by simpa [Value.ownBlock] using e'
    rw [← this, hgb] at h1
    cases h1
theorem RngAt.grown {k : TypeId} {w w' : World} {b r : Nat} {m done : List (Value × Value)} {v : Value} {e sz B n : Nat} {xs : List Value} (h : RngAt k w b r m done) (hv : w.ownsRow B e sz v n xs) (hg : w.grownBy w' v.ownBlock) : RngAt k w' b r m done := by
  have hm := h.map
  have hi := h.iter_walk
  have hne : ∀ (j : Nat) (o : Obj), w.heap[j]? = some o → o.isCells = false → some j ≠ v.ownBlock := by
    intro j o hj hc e'
    rcases hv.2 with ⟨rfl, _⟩ | ⟨g, cap, cur, rfl, _, hgb, _⟩
    · simp [Value.ownBlock] at e'
    · have : j = g := by simpa [Value.ownBlock] using e'
      rw [this, hgb] at hj
      cases hj; cases hc
  obtain ⟨o, h1, x, s, sn, c, rfl⟩ := hi
  obtain ⟨es, cl, h2, -⟩ := hm
  exact h.of_block (hg.block b (lt_of_block h2) (hne b _ h2 rfl)) (hg.block r (lt_of_block h1) (hne r _ h1 rfl))
theorem sort_own (w : World) (B : Nat) (v : Value) (xs : List Wd) (hx : ∀ x ∈ xs, x.mask < 65536) (hn : xs.length ≤ 1000000) (h : OwnW w B v xs) :
    Calls Tryz.prog 122 #[v, .func (.func 123) #[] #[]] w (fun e w' => ∃ ys a c, e = .returned (.tuple #[]) ∧ v = .slice a ys.length c ∧ ys.Perm xs ∧ ys.Pairwise (fun x y => ltW y x = false) ∧ OwnW w' B v ys ∧ ∀ w0, Ext w0 w → w0.heap.size ≤ B → Ext w0 w') := by
  rcases h.2 with ⟨rfl, hl⟩ | ⟨g, cap, cur, rfl, hg, _⟩
  · obtain rfl : xs = [] := List.length_eq_zero_iff.1 hl
    refine (sort_words_none w).mono ?_
    rintro e w' ⟨rfl, rfl⟩
    exact ⟨[], none, 0, rfl, rfl, .refl _, .nil, h, fun w0 e _ => e⟩
  · refine (sort_words B g cap xs w hx h hn).mono ?_
    rintro e w' ⟨rfl, ys, hp, hs, he, ho⟩
    exact ⟨ys, _, cap, rfl, by rw [hp.length_eq], hp, hs, ho, fun w0 e hb => (e.x.trans he).ext (by omega)⟩
set_option maxRecDepth 100000 in
set_option maxHeartbeats 4000000 in
theorem related_any (F : Fr) (u : Wd) (w : World) (h : FrAt w F) (hn : F.ws.length ≤ 12) (hm : ∀ x ∈ F.ws, x.mask < 65536) (hu : u.mask < 65536) : Calls Tryz.prog 87 #[frV F, wdV u] w (RetRel F.ws u w) := by
  obtain ⟨fn, ws, wa, wc⟩ := F
  obtain ⟨um, uo⟩ := u
  simp only at hn hm hu h
  show Calls Tryz.prog 87 #[frV ⟨fn, ws, wa, wc⟩, wdV ⟨um, uo⟩] w (RetRel ws ⟨um, uo⟩ w)
  cases HCL : clashW ws with
  | true =>
    have HP := Lib.hid (fun W (e : Ext w W) => products_clash wa ws wc W (RowAt.ext wdC_len h e) hn hm HCL)
    have HC := Lib.hid HCL
    clear h hm hu HCL
    go_enter Tryz.func87, Tryz.ntmps87
    go_wp2_with (fail)
    generalize hw1 : World.alloc (World.alloc _ _) _ = w1
    obtain ⟨he, o1, o2, -⟩ := alloc2 hw1
    clear hw1
    go_wp2_with (go_at_call 120; (with_reducible refine (HP.out _ he).mono ?_); rintro e w2 ⟨rfl, he2⟩)
    go_ret2
    exact ⟨he.trans he2, .inl ⟨HC.out, rfl⟩⟩
  | false =>
    have HP := Lib.hid (fun W (e : Ext w W) => products_free wa ws wc W (RowAt.ext wdC_len h e) hn hm HCL)
    have HM := Lib.hid hm
    have HU : Hid (um < 65536) := hu
    have HC := Lib.hid HCL
    clear h hm hu HCL
    go_enter Tryz.func87, Tryz.ntmps87
    go_wp2_with (fail)
    generalize hw1 : World.alloc (World.alloc _ _) _ = w1
    obtain ⟨he, o1, o2, -⟩ := alloc2 hw1
    obtain ⟨ub, hub⟩ : ∃ ub, ub = w.heap.size + 1 := ⟨_, rfl⟩
    rw [← hub] at o2 ⊢
    obtain ⟨c0, c1⟩ := obj_cells2 o2
    have HE := Lib.hid he
    clear hw1 hub o1 o2 he
    go_wp2_with (first
      | (go_at_call 120; (with_reducible refine (HP.out _ HE.out).mono ?_); rintro e w2 ⟨b, w3, s, cc, xs, j, rfl, hdel, hrng, hR⟩; obtain ⟨b', hb'⟩ : ∃ b', b' = b := ⟨_, rfl⟩)
      | (at_delete; refine wpList_delete_run _ rfl _ _ 179 59 rfl w3 (hdel _) ?_)
      | (at_range; refine wpList_range_run _ rfl _ 179 rfl _ _ hrng ?_))
    go_frame
    obtain ⟨he3, hsp, hj, hrg⟩ := hR.out
    have HJ := Lib.hid hj
    have HSP := Lib.hid hsp
    obtain ⟨ys, hys⟩ : ∃ ys, ys = xs.eraseIdx j := ⟨_, rfl⟩
    have HYS := Lib.hid hys
    rw [← hys] at hrg
    have HYM : Hid (∀ x ∈ ys, x.mask < 65536 ) := fun x hx => by
      rw [hys] at hx
      exact gens_lt (m := 16) ws HM.out x ((hsp.mem x).1 ((List.eraseIdx_sublist _ _).mem hx))
    have hyl : ys.length ≤ 4096 := by
      have h1 := hsp.len
      have h2 : 2 ^ ws.length ≤ 2 ^ 12 := Nat.pow_le_pow_right (by omega) hn
      have h3 := (List.eraseIdx_sublist xs j).length_le
      rw [← hys] at h3
      omega
    obtain ⟨r, hr⟩ : ∃ r, r = w3.heap.size := ⟨_, rfl⟩
    rw [← hr] at hrg ⊢
    have HRW : Hid (w1.heap.size ≤ r) := by rw [Hid, hr]; exact he3.size
    generalize hw4 : World.alloc _ _ = w4 at hrg ⊢
    have H0 : Hid (RngAt 59 w4 b r (ys.map entW) (([] : List Wd).map entW) ∧ OwnW w4 w1.heap.size (.slice none 0 0) (([] : List Wd).map fun x => mulW x ⟨um, uo⟩) ∧ Ext w1 w4) :=
      Lib.hid ⟨hrg, OwnF.nil _ _ _ _ _, by rw [← hw4]; exact he3.alloc _⟩
    clear hdel hrng hR he3 hsp hj hys hr hw4 hrg hb'
    go_loopw [8, 10] (fun v _ wr => ∃ done : List Wd, Hid (RngAt 59 wr b r (ys.map entW) (done.map entW) ∧ OwnW wr w1.heap.size v (done.map fun x => mulW x ⟨um, uo⟩) ∧ Ext w1 wr)) (fun _ _ wr => rngLeft wr b r)
    case atStart => exact ⟨[], H0⟩
    case round =>
      obtain ⟨done, hst⟩ := hrel
      clear H0
      have hnx := Lib.hid (fun ty => hst.out.1.nextW ty)
      go_wp2_with (at_next; refine wpList_next_run _ rfl _ rfl _ _ (hnx.out _) ?_ ?_)
      · intro hp
        have HP2 := Lib.hid hp
        have HS := Lib.hid (sort_own wr w1.heap.size u8 (done.map fun x => mulW x ⟨um, uo⟩) (fun y hy => by
          obtain ⟨x, hx, rfl⟩ := List.mem_map.1 hy
          exact mulW_lt (HYM.out x (hp.mem_iff.1 hx)) HU.out) (by rw [List.length_map, hp.length_eq]; omega) hst.out.2.1)
        clear hp hnx
        go_wp2_with (go_at_call 122; (with_reducible refine HS.out.mono ?_); rintro e w5 ⟨zs, a, c, rfl, rfl, hq, hs, ho, he⟩)
        go_ret2
        obtain ⟨hj1, hj2⟩ := HJ.out
        refine ⟨HE.out.trans (he w1 hst.out.2.2 (Nat.le_refl _)), .inr ⟨HC.out, a, c, zs, rfl, HSP.out.rel (HP2.out.trans ?_) hq hs, own_base ho HE.out.size⟩⟩
        rw [HYS.out, drop_one HSP.out hj1 hj2]
      · intro v w2 hB
        obtain ⟨x, hx, rfl, hlen, hrg2, hst2, hen⟩ := hB.out
        have ho2 := hst2.own hst.out.1.iter_walk hst.out.2.1
        have he2 := hst2.ext hst.out.2.2 HRW.out
        have hleft := hst.out.1.left
        have hxm := HYM.out x hx
        obtain ⟨xm, xo⟩ := x
        obtain ⟨z, hz⟩ : ∃ z, z = mulW ⟨xm, xo⟩ ⟨um, uo⟩ := ⟨_, rfl⟩
        have HT : Hid (∀ W, Calls Tryz.prog 121 #[.agg #[.int .u16 (xm : Int), .bool xo], .agg #[.int .u16 (um : Int), .bool uo]] W (Ret (wdV z) W)) := fun W => by
          rw [hz]; exact times_any ⟨xm, xo⟩ ⟨um, uo⟩ W hxm HU.out
        have hsn : ((done ++ [(⟨xm, xo⟩ : Wd)]).map fun x => mulW x ⟨um, uo⟩) = (done.map fun x => mulW x ⟨um, uo⟩) ++ [z] := by rw [List.map_append, hz]; rfl
        obtain ⟨zm, zo⟩ := z
        have HAPP : Hid (∀ W, Ext w2 W → ∃ v' w', (Builtin.append_ #[56, 56] 56 #[u8, .slice (some ⟨W.heap.size, 0, none⟩) 1 1]).run Tryz.prog (W.alloc (.cells #[.int .u16 (zm : Int), .bool zo] 75)) = .ok v' w' ∧
            Hid (RngAt 59 w' b r (ys.map entW) ((done ++ [(⟨xm, xo⟩ : Wd)]).map entW) ∧ OwnW w' w1.heap.size v' ((done ++ [(⟨xm, xo⟩ : Wd)]).map fun x => mulW x ⟨um, uo⟩) ∧ Ext w1 w')) := fun W e => by
          have hx := (Ext.refl W).alloc (.cells #[.int .u16 (zm : Int), .bool zo] 75)
          have hown := (ho2.ext e).ext hx
          obtain ⟨v', w', r1, r2, r3⟩ := app_wd (W.alloc (.cells #[.int .u16 (zm : Int), .bool zo] 75)) w1.heap.size 56 u8 _ [⟨zm, zo⟩] (some ⟨W.heap.size, 0, none⟩) 1 hown (wd_one (heap_new _ _)) (by simp; omega) (by rw [heap_size]; have := (he2.trans e).size; omega)
          refine ⟨v', w', r1, Lib.hid ⟨?_, by rw [hsn]; exact r2, grown_ext ((he2.trans e).alloc _) r3 (fun j hj => (hown.lt j hj).1)⟩⟩
          rw [List.map_append]
          exact ((hrg2.ext e).ext hx).grown hown r3
        have E2 := Ext.refl w2
        clear hB hnx hst hx hxm hz hsn hrg2 hst2 ho2
        go_wp2_with (first
          | (go_at_call 121; (with_reducible refine (HT.out _).mono ?_); rintro e w5 ⟨rfl, he5⟩; have he6 := (E2.alloc _).trans he5)
          | (at_builtin; refine wpList_app _ rfl _ _ 56 rfl _ (HAPP.out _ he6) ?_; rintro v' w6 hv1; have hv2 := Lib.hid hv1; clear hv1))
        refine ⟨⟨_, hv2.out⟩, ?_⟩
        rw [hv2.out.out.1.left, hleft]
        simp only [List.length_map, List.length_append, List.length_singleton]
        omega
end Go.Proofs.YtplbofhgmflnlaaGreat
