/-
  Walk: the law MatrixOnce: wideLog, and the memory.
-/
import Derived.Test.YtplbofhgmflnlaaGreatWP
import Derived.Test.YtplbofhgmflnlaaGreatOC2
import Derived.Test.YtplbofhgmflnlaaGreatPT
set_option linter.unusedVariables false
set_option linter.unusedSimpArgs false
namespace Go.Proofs.YtplbofhgmflnlaaGreat
open Go.RowKit Go.Maps
abbrev logV (P : Pw) (a : Option Addr) (n sc : Nat) (sd : Int) (oa : Option Addr) (m oc : Nat) : Value := .agg #[.slice P.fa P.fs.length P.fc, .slice P.ga P.fo.length P.gc, .slice a n sc, .int .u64 sd, .slice oa m oc]
set_option maxRecDepth 100000 in
set_option maxHeartbeats 4000000 in
theorem wideLog_any (P : Pw) (a : Option Addr) (ss : List Se) (sc : Nat) (sd : Int) (oa : Option Addr) (m oc : Nat) (w : World) (hp : PlanAt w P) (hgl : ∀ i, i < P.fo.length → (gth P.fo i).xs.length ≤ 9223372036854775807) (hs : SetsAt w a ss) (hl : ∀ i, i < ss.length → (eth ss i).lv.xs.length ≤ 9223372036854775807) :
    Calls Tryz.prog 51 #[logV P a ss.length sc sd oa m oc] w (Ret (.bool (wideP P.fs P.fo || wideS ss || decide (40 < m))) w) := by
  have hwp := fun W (e : Ext w W) => wideP_any P.fs P.fo P.fa P.ga P.fc P.gc W (hp.ext e).fo hgl
  have hws := fun W (e : Ext w W) => wideS_any ss a sc W (hs.ext e).row hl
  obtain ⟨x, hx⟩ : ∃ x, x = wideP P.fs P.fo := ⟨_, rfl⟩
  obtain ⟨y, hy⟩ : ∃ y, y = wideS ss := ⟨_, rfl⟩
  obtain ⟨fs, fa, fc, fo, ga, gc⟩ := P
  simp only at hwp hx ⊢
  rw [← hx] at hwp ⊢
  rw [← hy] at hws ⊢
  have HWP := Lib.hid hwp; have HWS := Lib.hid hws
  obtain ⟨n, hn⟩ : ∃ n, n = ss.length := ⟨_, rfl⟩
  rw [← hn] at HWS ⊢
  clear hwp hws hp hs hgl hl hx hy hn
  have hd : Hid ((x || y || decide (40 < m)) = if x then true else if y then true else decide (40 < (m : Int))) := by
    have : decide (40 < (m : Int)) = decide (40 < m) := by rw [decide_eq_decide]; omega
    rw [Hid, this]; cases x <;> cases y <;> simp
  rw [hd.out]
  clear hd
  cases x
  · cases y
    all_goals
      go_enter Tryz.func51, Tryz.ntmps51
      go_wp2_with (fail)
      generalize hw1 : World.alloc _ _ = w1
      obtain ⟨he, o1, -⟩ := alloc1 hw1
      obtain ⟨b0, b1, b2, b3, b4⟩ := obj_cells5 o1
      have E1 := Ext.refl w1
      have HE := Lib.hid he
      clear hw1 o1 he
      go_wp2_with (first
        | (go_at_call 15; (with_reducible refine (HWP.out _ HE.out).mono ?_); rintro e w2 ⟨rfl, he2⟩; have HE2 : Hid (Ext w w2) := HE.out.trans he2)
        | (go_at_call 16; (with_reducible refine (HWS.out _ HE2.out).mono ?_); rintro e w3 ⟨rfl, he3⟩; have HE3 : Hid (Ext w w3) := HE2.out.trans he3; have he13 : Ext w1 w3 := he2.trans he3))
      go_ret
      exact ⟨by simp, HE3.out⟩
  · go_enter Tryz.func51, Tryz.ntmps51
    go_wp2_with (fail)
    generalize hw1 : World.alloc _ _ = w1
    obtain ⟨he, o1, -⟩ := alloc1 hw1
    obtain ⟨b0, b1, b2, b3, b4⟩ := obj_cells5 o1
    have E1 := Ext.refl w1
    have HE := Lib.hid he
    clear hw1 o1 he
    go_wp2_with (first
      | (go_at_call 15; (with_reducible refine (HWP.out _ HE.out).mono ?_); rintro e w2 ⟨rfl, he2⟩; have HE2 : Hid (Ext w w2) := HE.out.trans he2))
    go_ret
    exact ⟨by simp, HE2.out⟩
/-! ### the memory -/
abbrev entI (p : Int × Int) : Value × Value := (.int .i64 p.1, .int .i64 p.2)
theorem zero3 (w : World) : (zeroValue 3).run Tryz.prog w = .ok (.int .i64 0) w := by kernel_rfl
abbrev onL (x : Bp) (pts : List Pt) (ord : List Int) (va vy vr : Value) (Y R : List Int) : List Rw := rwI vr R :: rwI vy Y :: rwI va ord :: bkL x pts ord
structure OnSt (w0 W : World) (B b : Nat) (x : Bp) (pts : List Pt) (ord : List Int) (va vy vr : Value) (Y R : List Int) (last : List (Int × Int)) : Prop where
  ext : Ext w0 W
  hB : w0.heap.size ≤ B
  hb : B ≤ b
  rows : RowsAt W B (onL x pts ord va vy vr Y R)
  map : MapAt 3 W b (last.map entI)
section
variable {w0 W : World} {B b : Nat} {x : Bp} {pts : List Pt} {ord : List Int} {va vy vr : Value} {Y R : List Int} {last : List (Int × Int)}
theorem OnSt.grow {W' : World} (h : OnSt w0 W B b x pts ord va vy vr Y R last) (e : Ext W W') : OnSt w0 W' B b x pts ord va vy vr Y R last :=
  ⟨h.ext.trans e, h.hB, h.hb, h.rows.ext e, h.map.ext e⟩
theorem OnSt.bk (h : OnSt w0 W B b x pts ord va vy vr Y R last) : BkAt W B x pts ord :=
  h.rows.sub (((List.sublist_cons_self _ _).trans (List.sublist_cons_self _ _)).trans (List.sublist_cons_self _ _))
theorem OnSt.oa (h : OnSt w0 W B b x pts ord va vy vr Y R last) : OwnI W B va ord := h.rows.own (rwI va ord) (by simp)
theorem OnSt.oy (h : OnSt w0 W B b x pts ord va vy vr Y R last) : OwnI W B vy Y := h.rows.own (rwI vy Y) (by simp)
theorem OnSt.or (h : OnSt w0 W B b x pts ord va vy vr Y R last) : OwnI W B vr R := h.rows.own (rwI vr R) (by simp)
theorem own_not_map {w : World} {B b : Nat} {v : Value} {xs : List Int} {m : List (Value × Value)} {g : Nat} (h : OwnI w B v xs) (hg : v.ownBlock = some g) (hm : MapAt 3 w b m) : b ≠ g := by
  rintro rfl
  obtain ⟨es, clock, h1, -⟩ := hm
  rcases h.2 with ⟨hv, -⟩ | ⟨g', cap, cur, hv, -, hh, -⟩
  · rw [hv] at hg; cases hg
  · rw [hv] at hg
    simp only [Value.ownBlock, Option.some.injEq] at hg
    subst hg
    rw [h1] at hh; cases hh
theorem ownP_not_map {w : World} {B b : Nat} {v : Value} {xs : List Pt} {m : List (Value × Value)} {g : Nat} (h : OwnP w B v xs) (hg : v.ownBlock = some g) (hm : MapAt 3 w b m) : b ≠ g := by
  rintro rfl
  obtain ⟨es, clock, h1, -⟩ := hm
  rcases h.2 with ⟨hv, -⟩ | ⟨g', cap, cur, hv, -, hh, -⟩
  · rw [hv] at hg; cases hg
  · rw [hv] at hg
    simp only [Value.ownBlock, Option.some.injEq] at hg
    subst hg
    rw [h1] at hh; cases hh
theorem OnSt.call {W' : World} {gp : Nat} {pts' : List Pt} (h : OnSt w0 W B b x pts ord va vy vr Y R last) (hgp : x.pa = some ⟨gp, 0, none⟩) (he : ExtX gp W W') (hb' : BkAt W' B x pts' ord) (hl : pts'.length = pts.length) : OnSt w0 W' B b x pts' ord va vy vr Y R last := by
  have hblk : (Value.slice x.pa pts.length x.pc).ownBlock = some gp := by rw [hgp]; rfl
  have hge : B ≤ gp := (h.bk.opts.lt gp hblk).1
  refine ⟨(h.ext.x.trans he).ext (Nat.le_trans h.hB hge), h.hB, h.hb, ?_, h.map.of_block (he.block b h.map.lt (ownP_not_map h.bk.opts hblk h.map))⟩
  have := RowsAt.setMid (L1 := [rwI vr R, rwI vy Y, rwI va ord, rwB x.gb (.slice x.pa pts.length x.pc) (.slice x.oa ord.length x.oc)]) (r := rwP (.slice x.pa pts.length x.pc) pts) (r' := rwP (.slice x.pa pts'.length x.pc) pts') (L2 := [rwI (.slice x.oa ord.length x.oc) ord]) (w' := W') h.rows hb'.opts
    (fun k hk hne => he.block k hk (fun e => hne (by rw [e]; exact hblk))) (fun k hk => .inl (by rw [hl] at hk; exact hk))
  unfold onL bkL
  rw [hl] at this ⊢
  exact this
theorem OnSt.setR {gr n c k : Nat} (hr : vr = .slice (some ⟨gr, 0, none⟩) n c) (hn : R.length = n) (h : OnSt w0 W B b x pts ord va vy vr Y R last) (v : Int) : OnSt w0 (W.setCell ⟨gr, k, none⟩ (.int .i64 v)) B b x pts ord va vy vr Y (R.set k v) last := by
  subst hr
  have hge : B ≤ gr := (h.or.lt gr rfl).1
  have hx : ExtX gr W (W.setCell ⟨gr, k, none⟩ (.int .i64 v)) := (ExtX.refl gr W).set _ _
  refine ⟨(h.ext.x.trans hx).ext (Nat.le_trans h.hB hge), h.hB, h.hb, ?_, h.map.of_block (hx.block b h.map.lt (own_not_map h.or rfl h.map))⟩
  have ho : OwnI (W.setCell ⟨gr, k, none⟩ (.int .i64 v)) B (.slice (some ⟨gr, 0, none⟩) n c) (R.set k v) := ownI_set2 hn h.or v
  exact RowsAt.wrMid (L1 := []) (L2 := rwI vy Y :: rwI va ord :: bkL x pts ord) (r := rwI (.slice (some ⟨gr, 0, none⟩) n c) R) (r' := rwI (.slice (some ⟨gr, 0, none⟩) n c) (R.set k v)) h.rows hx rfl rfl ho
/-- What the map of last places answers. -/
def lookL (last : List (Int × Int)) (k : Int) : Option Int := (last.find? fun p => p.1 == k).map Prod.snd
theorem lookL_mem {last : List (Int × Int)} {k v : Int} (h : lookL last k = some v) : (k, v) ∈ last := by
  unfold lookL at h
  rw [Option.map_eq_some_iff] at h
  obtain ⟨⟨a, c⟩, h1, rfl⟩ := h
  have h2 := List.find?_some h1
  have h3 := List.mem_of_find?_eq_some h1
  simp only [beq_iff_eq] at h2
  subst h2; exact h3
theorem lookL_none {last : List (Int × Int)} {k : Int} (h : lookL last k = none) : ∀ p ∈ last, p.1 ≠ k := by
  unfold lookL at h
  rw [Option.map_eq_none_iff, List.find?_eq_none] at h
  intro p hp e
  exact h p hp (by simpa using e)
theorem OnSt.look (h : OnSt w0 W B b x pts ord va vy vr Y R last) {k : Int} (hk : wf64 k) : (Instr.lookup 119 (.map (some b)) (.int .i64 k) true).run Tryz.prog W = .ok (match lookL last k with | some v => .tuple #[.int .i64 v, .bool true] | none => .tuple #[.int .i64 0, .bool false]) W := by
  cases e : lookL last k with
  | some v =>
    have := h.map.look_yes keyed3 Tryz.underlying119 (key3 hk) (v := .int .i64 v) (List.mem_map.2 ⟨(k, v), lookL_mem e, rfl⟩) true
    simpa using this
  | none =>
    have := h.map.look_no keyed3 Tryz.underlying119 (zero3 W) (key3 hk) (fun p hp => by
      obtain ⟨q, hq, rfl⟩ := List.mem_map.1 hp
      intro e2
      simp only [Value.int.injEq, true_and] at e2
      exact lookL_none e q hq e2) true
    simpa using this
theorem OnSt.upd (h : OnSt w0 W B b x pts ord va vy vr Y R last) {k : Int} (hk : wf64 k) (v : Int) (hnd : (last.map Prod.fst).Nodup) (hlen : last.length ≤ 1000000) : ∃ W' last', (Instr.mapUpdate 119 (.map (some b)) (.int .i64 k) (.int .i64 v)).run Tryz.prog W = .ok () W' ∧ OnSt w0 W' B b x pts ord va vy vr Y R last' ∧ (last'.map Prod.fst).Nodup ∧ (∀ p ∈ last', p ∈ last ∨ p = (k, v)) ∧ last'.length ≤ last.length + 1 := by
  cases e : lookL last k with
  | some u =>
    obtain ⟨j, hj, he⟩ := List.getElem_of_mem (lookL_mem e)
    obtain ⟨W', r1, r2, r3⟩ := h.map.store_old keyed3 Tryz.underlying119 (key3 hk) (val := .int .i64 v) (j := j) (v0 := .int .i64 u) (by rw [List.getElem?_map, List.getElem?_eq_getElem hj, he]; rfl)
    refine ⟨W', last.set j (k, v), r1, ⟨h.ext.turned r3 (Nat.le_trans h.hB h.hb), h.hB, h.hb, h.rows.turned h.map r3, by rw [List.map_set]; exact r2⟩, ?_, fun p hp => List.mem_or_eq_of_mem_set hp, by rw [List.length_set]; omega⟩
    have : (last.set j (k, v)).map Prod.fst = last.map Prod.fst := by
      rw [List.map_set]
      apply List.ext_getElem
      · simp
      · intro i h1 h2
        rw [List.getElem_set]
        by_cases hij : j = i
        · subst hij; rw [if_pos rfl, List.getElem_map, he]
        · rw [if_neg hij]
    rw [this]; exact hnd
  | none =>
    obtain ⟨W', r1, r2, r3⟩ := h.map.store_new keyed3 Tryz.underlying119 (key3 hk) (val := .int .i64 v) (fun p hp => by
      obtain ⟨q, hq, rfl⟩ := List.mem_map.1 hp
      intro e2
      simp only [Value.int.injEq, true_and] at e2
      exact lookL_none e q hq e2) (by rw [List.length_map]; unfold maxLen; omega)
    refine ⟨W', last ++ [(k, v)], r1, ⟨h.ext.turned r3 (Nat.le_trans h.hB h.hb), h.hB, h.hb, h.rows.turned h.map r3, by rw [List.map_append]; exact r2⟩, ?_, fun p hp => by simpa using hp, by simp⟩
    rw [List.map_append, List.nodup_append]
    refine ⟨hnd, by simp, fun a ha b hb => ?_⟩
    simp only [List.map_cons, List.map_nil, List.mem_singleton] at hb
    subst hb
    obtain ⟨q, hq, rfl⟩ := List.mem_map.1 ha
    exact lookL_none e q hq
end
section
variable {w0 W : World} {B b n : Nat} {x : Bp} {pts : List Pt} {ord : List Int} {pl : Nat → Nat} {bl : Nat → Int} {va vy vr : Value} {Y R : List Int} {last : List (Int × Int)}
theorem OnSt.pa (h : OnSt w0 W B b x pts ord va vy vr Y R last) {k : Nat} (hk : k < pts.length) : ∃ gp, x.pa = some ⟨gp, 0, none⟩ := by
  obtain ⟨gp, h1, -⟩ := h.bk.pt k hk
  exact ⟨gp, h1⟩
/-- The block of a book's points. -/
def gpB (x : Bp) : Nat := match x.pa with | some p => p.block | none => 0
theorem gpB_some {g : Nat} (h : x.pa = some ⟨g, 0, none⟩) : gpB x = g := by unfold gpB; rw [h]
theorem OnSt.gpB_lt (h : OnSt w0 W B b x pts ord va vy vr Y R last) (h0 : 0 < w0.heap.size) : gpB x < W.heap.size := by
  unfold gpB
  cases e : x.pa with
  | none => have := h.ext.size; simp only; omega
  | some p =>
    have := (h.bk.opts.lt p.block (by rw [e]; rfl)).2
    exact this
theorem own_extX {w w' : World} {D g : Nat} {v : Value} {xs : List Int} (h : OwnI w D v xs) (he : ExtX g w w') (hg : g < D) : OwnI w' D v xs :=
  own_of_block h fun k hk => he.block k (h.lt k hk).2 (by have := (h.lt k hk).1; omega)
theorem on_open (h : OnSt w0 W B b x pts ord va vy vr Y R last) (hb : InB n ord) (hp : pts.length = n) (hn : ord.length ≤ 1000000) : ∀ W', Ext W W' → Calls Tryz.prog 61 #[bkV x] W' (fun e w' => ∃ a c, e = .returned (.slice a (openL pts ord).length c) ∧ Ext W' w' ∧ OwnI w' W'.heap.size (.slice a (openL pts ord).length c) (openL pts ord)) := fun W' e =>
  (Open_any B x pts ord W' (h.grow e).bk (by rw [hp]; exact hb) hn).mono (by
    rintro e w' ⟨a, c, rfl, he, ho⟩
    exact ⟨a, c, rfl, he, ho⟩)
theorem on_take (h : OnSt w0 W B b x pts ord va vy vr Y R last) (hi : OnceI n ord pl bl pts R last) (hb : InB n ord) (hn : ord.length ≤ 1000000) (p : Int) : ∃ (E : Int) (pts' : List Pt),
    (∀ W', Ext W W' → Calls Tryz.prog 54 #[bkV x, .int .i64 p] W' (fun e w' => e = .returned (.int .i64 E) ∧ ExtX (gpB x) W' w' ∧ OnSt w0 w' B b x pts' ord va vy vr Y R last)) ∧ (E ≠ 0 → pts' = pts) ∧ (E = 0 → ∃ k : Nat, k < n ∧ p = (k : Int) ∧ takeE pts ord k = 0 ∧ pts' = pts.set k { qth pts k with st := 1 }) := by
  by_cases hk : p < 0 ∨ (pts.length : Int) ≤ p
  · refine ⟨3, pts, fun W' e => (Take_no B x pts ord p W' (h.grow e).bk hk).mono ?_, fun _ => rfl, fun h => by cases h⟩
    rintro e' w' ⟨rfl, he⟩
    exact ⟨rfl, he.x, (h.grow e).grow he⟩
  · obtain ⟨k, rfl⟩ : ∃ k : Nat, p = (k : Int) := ⟨p.toNat, by omega⟩
    have hkp : k < pts.length := by omega
    have hkn : k < n := by rw [← hi.plen]; exact hkp
    obtain ⟨gp, hgp⟩ := h.pa hkp
    refine ⟨takeE pts ord k, if takeE pts ord k = 0 then pts.set k { qth pts k with st := 1 } else pts, fun W' e => (Take_any B x pts ord k gp W' (h.grow e).bk hkp hgp (by rw [hi.plen]; exact hb) hn (pl k) (hi.place k hkn) (Nat.le_of_lt (hi.pln k hkn))).mono ?_, fun h0 => if_neg h0, fun h0 => ⟨k, hkn, rfl, h0, if_pos h0⟩⟩
    rintro e' w' ⟨rfl, he, hb'⟩
    exact ⟨rfl, by rw [gpB_some hgp]; exact he, (h.grow e).call hgp he hb' (by split <;> simp)⟩
theorem on_decl (h : OnSt w0 W B b x pts ord va vy vr Y R last) (hi : OnceI n ord pl bl pts R last) (p : Int) (r : ByteArray) (hr : r.size ≤ maxLen) : ∃ (E : Int) (pts' : List Pt),
    (∀ W', Ext W W' → Calls Tryz.prog 56 #[bkV x, .int .i64 p, .string r] W' (fun e w' => e = .returned (.int .i64 E) ∧ ExtX (gpB x) W' w' ∧ OnSt w0 w' B b x pts' ord va vy vr Y R last)) ∧ (E ≠ 0 → pts' = pts) ∧ OnceI n ord pl bl pts' R last := by
  by_cases hk : p < 0 ∨ (pts.length : Int) ≤ p
  · refine ⟨3, pts, fun W' e => (Declare_no B x pts ord p r W' (h.grow e).bk hk).mono ?_, fun _ => rfl, hi⟩
    rintro e' w' ⟨rfl, he⟩
    exact ⟨rfl, he.x, (h.grow e).grow he⟩
  · obtain ⟨k, rfl⟩ : ∃ k : Nat, p = (k : Int) := ⟨p.toNat, by omega⟩
    have hkp : k < pts.length := by omega
    have hkn : k < n := by rw [← hi.plen]; exact hkp
    obtain ⟨gp, hgp⟩ := h.pa hkp
    refine ⟨declE pts k r, if declE pts k r = 0 then pts.set k { qth pts k with st := 2, rs := r } else pts, fun W' e => (Declare_any B x pts ord k gp r W' (h.grow e).bk hkp hgp hr).mono ?_, fun h0 => if_neg h0, ?_⟩
    · rintro e' w' ⟨rfl, he, hb'⟩
      exact ⟨rfl, by rw [gpB_some hgp]; exact he, (h.grow e).call hgp he hb' (by split <;> simp)⟩
    · split
      · rename_i h0; exact hi.decl_ok hkn h0
      · exact hi
theorem on_reop (h : OnSt w0 W B b x pts ord va vy vr Y R last) (hi : OnceI n ord pl bl pts R last) (hb : InB n ord) (hn : ord.length ≤ 1000000) (p : Int) : ∃ (E : Int) (pts' : List Pt),
    (∀ W', Ext W W' → Calls Tryz.prog 58 #[bkV x, .int .i64 p] W' (fun e w' => e = .returned (.int .i64 E) ∧ ExtX (gpB x) W' w' ∧ OnSt w0 w' B b x pts' ord va vy vr Y R last)) ∧ (E ≠ 0 → pts' = pts) ∧ OnceI n ord pl bl pts' R last := by
  by_cases hk : p < 0 ∨ (pts.length : Int) ≤ p
  · refine ⟨3, pts, fun W' e => (Reopen_no B x pts ord p W' (h.grow e).bk hk).mono ?_, fun _ => rfl, hi⟩
    rintro e' w' ⟨rfl, he⟩
    exact ⟨rfl, he.x, (h.grow e).grow he⟩
  · obtain ⟨k, rfl⟩ : ∃ k : Nat, p = (k : Int) := ⟨p.toNat, by omega⟩
    have hkp : k < pts.length := by omega
    have hkn : k < n := by rw [← hi.plen]; exact hkp
    obtain ⟨gp, hgp⟩ := h.pa hkp
    refine ⟨reopE pts ord k, if reopE pts ord k = 0 then pts.set k { qth pts k with st := 0, rs := ⟨#[]⟩ } else pts, fun W' e => (Reopen_any B x pts ord k gp W' (h.grow e).bk hkp hgp (by rw [hi.plen]; exact hb) hn (pl k) (hi.place k hkn) (hi.pln k hkn)).mono ?_, fun h0 => if_neg h0, ?_⟩
    · rintro e' w' ⟨rfl, he, hb'⟩
      exact ⟨rfl, by rw [gpB_some hgp]; exact he, (h.grow e).call hgp he hb' (by split <;> simp)⟩
    · split
      · rename_i h0; exact hi.reop_ok hkn h0
      · exact hi
end
def opC (o : Op) : List Value := [.int .i64 o.kind, .int .i64 o.pt, .string o.rs]
theorem opC_len (o : Op) : (opC o).length = 3 := rfl
def oth (os : List Op) (i : Nat) : Op := os.getD i ⟨0, 0, ⟨#[]⟩⟩
theorem op_at {w : World} {a : Option Addr} {os : List Op} (h : RowAt 3 opC w a os) (i : Nat) (hi : i < os.length) : ∃ b o, a = some ⟨b, o, none⟩ ∧
    (∀ W, Ext w W → W.cell? ⟨b, o + i * 3, none⟩ = some (.int .i64 (oth os i).kind)) ∧ (∀ W, Ext w W → W.cell? ⟨b, o + i * 3 + 1, none⟩ = some (.int .i64 (oth os i).pt)) ∧ (∀ W, Ext w W → W.cell? ⟨b, o + i * 3 + 2, none⟩ = some (.string (oth os i).rs)) := by
  obtain ⟨b, o, h1, h2⟩ := RowAt.at opC_len h i hi
  have e : oth os i = os[i] := by simp [oth, hi]
  rw [← e] at h2
  exact ⟨b, o, h1, fun W e => by have := h2 0 (by omega) W e; simpa [opC] using this, fun W e => by have := h2 1 (by omega) W e; simpa [opC] using this, fun W e => by have := h2 2 (by omega) W e; simpa [opC] using this⟩
end Go.Proofs.YtplbofhgmflnlaaGreat
