/-
  Order's memory: two maps and many own rows, and what Order's first pass does to them.
-/
import Derived.Test.YtplbofhgmflnlaaGreatM15
set_option linter.unusedVariables false
set_option linter.unusedSimpArgs false
namespace Go.Proofs.YtplbofhgmflnlaaGreat
open Go.RowKit Go.Maps
/-- A row of groups. -/
abbrev rwG (v : Value) (ks : List (List Int)) : Rw := ⟨191, 9, v, ks.length, rowF grC ks⟩
theorem RowsAt.setMid {w w' : World} {B : Nat} {L1 L2 : List Rw} {r r' : Rw} (h : RowsAt w B (L1 ++ r :: L2)) (hw : r'.at w' B)
    (hk : ∀ k, k < w.heap.size → r.v.ownBlock ≠ some k → w'.heap[k]? = w.heap[k]?) (hl : ∀ k, r'.v.ownBlock = some k → r.v.ownBlock = some k ∨ w.heap.size ≤ k) : RowsAt w' B (L1 ++ r' :: L2) := by
  have := h.put (i := L1.length) (r := r) (by simp) hw hk hl
  rwa [List.set_append_right _ _ (Nat.le_refl _), Nat.sub_self, List.set_cons_zero] at this
theorem RowsAt.appMid {w w' : World} {B : Nat} {L1 L2 : List Rw} {r r' : Rw} (h : RowsAt w B (L1 ++ r :: L2)) (hg : w.grownBy w' r.v.ownBlock) (hw : r'.at w' B) (hl : r'.v.ownBlock = r.v.ownBlock ∨ r'.v.ownBlock = some w.heap.size) : RowsAt w' B (L1 ++ r' :: L2) :=
  h.setMid hw (fun k hk hne => hg.block k hk (fun e => hne (by first | exact e | exact e.symm))) (fun k hk => by
    rcases hl with h1 | h1
    · left; rw [← h1]; exact hk
    · right; rw [h1] at hk; cases hk; exact Nat.le_refl _)
theorem RowsAt.wrMid {w w' : World} {B g : Nat} {L1 L2 : List Rw} {r r' : Rw} (h : RowsAt w B (L1 ++ r :: L2)) (hx : ExtX g w w') (hr : r.v.ownBlock = some g) (hv : r'.v = r.v) (hw : r'.at w' B) : RowsAt w' B (L1 ++ r' :: L2) :=
  h.setMid hw (fun k hk hne => hx.block k hk (fun e => hne (by rw [e]; exact hr))) (fun k hk => by left; rw [← hv]; exact hk)
theorem RowsAt.mid {w : World} {B : Nat} {L1 L2 : List Rw} {r : Rw} (h : RowsAt w B (L1 ++ r :: L2)) : r.at w B := h.own r (by simp)
theorem RowsAt.nilrow {w : World} {B : Nat} {L : List Rw} (h : RowsAt w B L) (e sz : Nat) : RowsAt w B (⟨e, sz, .slice none 0 0, 0, []⟩ :: L) :=
  h.push ⟨by simp, .inl ⟨rfl, rfl⟩⟩ (fun k hk => rfl) (fun k hk => by cases hk)
theorem RowsAt.lit {w W : World} {B b n sz : Nat} {e : TypeId} {cs : Array Value} {L : List Rw} (h : RowsAt w B L) (x : Ext w W) (hb : W.heap[b]? = some (.cells cs e (0, 0))) (hge : w.heap.size ≤ b) (hB : B ≤ w.heap.size) (hn : n ≤ 1000000) (hs : cs.size = n * sz) :
    RowsAt W B (⟨e, sz, .slice (some ⟨b, 0, none⟩) n n, n, cs.toList⟩ :: L) := by
  refine h.push ?_ (fun k hk => Below.block x k hk) (fun k hk => ?_)
  · refine ⟨by simp [hs], .inr ⟨b, n, cs, rfl, by omega, hb, Nat.le_refl _, by unfold maxLen; omega, hs, ?_⟩⟩
    rw [← hs, ← Array.length_toList, List.take_length]
  · simp only [Value.ownBlock, Option.some.injEq] at hk
    omega
/-- Two maps and rows of the call's own. -/
structure Ws (w1 w : World) (b7 b8 : Nat) (M7 M8 : List (Value × Value)) (L : List Rw) : Prop where
  ext : Ext w1 w
  le7 : w1.heap.size ≤ b7
  le8 : w1.heap.size ≤ b8
  ne : b7 ≠ b8
  m7 : MapAt 191 w b7 M7
  m8 : MapAt 3 w b8 M8
  rows : RowsAt w w1.heap.size L
section
variable {w1 w w' : World} {b7 b8 : Nat} {M7 M8 : List (Value × Value)} {L L1 L2 : List Rw} {r : Rw}
theorem Ws.grow (h : Ws w1 w b7 b8 M7 M8 L) (e : Ext w w') : Ws w1 w' b7 b8 M7 M8 L := ⟨h.ext.trans e, h.le7, h.le8, h.ne, h.m7.ext e, h.m8.ext e, h.rows.ext e⟩
theorem Ws.perm (h : Ws w1 w b7 b8 M7 M8 L) {L' : List Rw} (p : L.Perm L') : Ws w1 w b7 b8 M7 M8 L' := ⟨h.ext, h.le7, h.le8, h.ne, h.m7, h.m8, h.rows.perm p⟩
theorem Ws.sub (h : Ws w1 w b7 b8 M7 M8 L) {L' : List Rw} (p : L'.Sublist L) : Ws w1 w b7 b8 M7 M8 L' := ⟨h.ext, h.le7, h.le8, h.ne, h.m7, h.m8, h.rows.sub p⟩
theorem Ws.nilrow (h : Ws w1 w b7 b8 M7 M8 L) (e sz : Nat) : Ws w1 w b7 b8 M7 M8 (⟨e, sz, .slice none 0 0, 0, []⟩ :: L) := ⟨h.ext, h.le7, h.le8, h.ne, h.m7, h.m8, h.rows.nilrow e sz⟩
theorem Ws.lit (h : Ws w1 w b7 b8 M7 M8 L) {b n sz : Nat} {e : TypeId} {cs : Array Value} (x : Ext w w') (hb : w'.heap[b]? = some (.cells cs e (0, 0))) (hge : w.heap.size ≤ b) (hn : n ≤ 1000000) (hs : cs.size = n * sz) :
    Ws w1 w' b7 b8 M7 M8 (⟨e, sz, .slice (some ⟨b, 0, none⟩) n n, n, cs.toList⟩ :: L) :=
  ⟨h.ext.trans x, h.le7, h.le8, h.ne, h.m7.ext x, h.m8.ext x, h.rows.lit x hb hge h.ext.size hn hs⟩
theorem Ws.app (h : Ws w1 w b7 b8 M7 M8 (L1 ++ r :: L2)) {r' : Rw} (hg : w.grownBy w' r.v.ownBlock) (hw : r'.at w' w1.heap.size) (hl : r'.v.ownBlock = r.v.ownBlock ∨ r'.v.ownBlock = some w.heap.size) : Ws w1 w' b7 b8 M7 M8 (L1 ++ r' :: L2) :=
  ⟨grown_ext h.ext hg (fun k hk => (h.rows.mid.lt k hk).1), h.le7, h.le8, h.ne,
    h.m7.of_block (hg.block b7 h.m7.lt (fun e => map_ne_row h.m7 h.rows.mid b7 (by first | exact e | exact e.symm) rfl)),
    h.m8.of_block (hg.block b8 h.m8.lt (fun e => map_ne_row h.m8 h.rows.mid b8 (by first | exact e | exact e.symm) rfl)), h.rows.appMid hg hw hl⟩
theorem Ws.wr {g : Nat} (h : Ws w1 w b7 b8 M7 M8 (L1 ++ r :: L2)) {r' : Rw} (hx : ExtX g w w') (hr : r.v.ownBlock = some g) (hv : r'.v = r.v) (hw : r'.at w' w1.heap.size) : Ws w1 w' b7 b8 M7 M8 (L1 ++ r' :: L2) :=
  ⟨(h.ext.x.trans hx).ext (h.rows.mid.lt g hr).1, h.le7, h.le8, h.ne,
    h.m7.of_block (hx.block b7 h.m7.lt (fun e => map_ne_row h.m7 h.rows.mid b7 (by rw [e]; exact hr) rfl)),
    h.m8.of_block (hx.block b8 h.m8.lt (fun e => map_ne_row h.m8 h.rows.mid b8 (by rw [e]; exact hr) rfl)), h.rows.wrMid hx hr hv hw⟩
theorem MapAt.turned {k : TypeId} {b b' : Nat} {m : List (Value × Value)} (h : MapAt k w b m) (t : Turned w w' b') (hne : b ≠ b') : MapAt k w' b m := h.of_block (t.block b hne)
theorem Ws.turn8 (h : Ws w1 w b7 b8 M7 M8 L) {M : List (Value × Value)} (hm : MapAt 3 w' b8 M) (t : Turned w w' b8) : Ws w1 w' b7 b8 M7 M L :=
  ⟨h.ext.turned t h.le8, h.le7, h.le8, h.ne, h.m7.turned t h.ne, hm, h.rows.turned h.m8 t⟩
theorem Ws.turn7 (h : Ws w1 w b7 b8 M7 M8 L) {M : List (Value × Value)} (hm : MapAt 191 w' b7 M) (t : Turned w w' b7) : Ws w1 w' b7 b8 M M8 L :=
  ⟨h.ext.turned t h.le7, h.le7, h.le8, h.ne, hm, h.m8.turned t (Ne.symm h.ne), h.rows.turned h.m7 t⟩
end
theorem zero31 (w : World) : (zeroValue 31).run Tryz.prog w = .ok (.slice none 0 0) w := by kernel_rfl
theorem zero193 (w : World) : (zeroValue 193).run Tryz.prog w = .ok (.slice none 0 0) w := by kernel_rfl
/-- The lists that the maps and the rows are made of. -/
def M7l (gs : List (List Int × Value)) : List (Value × Value) := gs.map fun g => (grV g.1, g.2)
def M8l (bs : List (Int × Value)) : List (Value × Value) := bs.map fun b => (.int .i64 b.1, b.2)
def G7 (mem : List Int → List Int) (gs : List (List Int × Value)) : List Rw := gs.map fun g => rwI g.2 (mem g.1)
def G8 (kb : Int → List (List Int)) (bs : List (Int × Value)) : List Rw := bs.map fun b => rwG b.2 (kb b.1)
theorem app_grL (w : World) (B : Nat) (ty : TypeId) (v : Value) (xs : List (List Int)) (x : List Int) (g c : Nat) (hv : OwnG w B v xs) (hg : w.heap[g]? = some (.cells (grC x).toArray 191 (0, 0))) (hn : xs.length ≤ 1000000) (hB : B ≤ w.heap.size) :
    ∃ v' w', (Builtin.append_ #[193, 193] ty #[v, .slice (some ⟨g, 0, none⟩) 1 1]).run Tryz.prog w = .ok v' w' ∧ OwnG w' B v' (xs ++ [x]) ∧ w.grownBy w' v.ownBlock ∧ (v'.ownBlock = v.ownBlock ∨ v'.ownBlock = some w.heap.size) := by
  obtain ⟨i0, hi, hz0, hz1, hz2⟩ := info_parts info191
  exact app_struct 193 ty 191 grC grC_len grC_one (by omega) Tryz.underlying193 hi hz0 hz1 hz2 rfl (by omega) w B v xs hv x g hg hn hB
section
variable {w1 w : World} {b7 b8 : Nat}
/-- The number of a block is appended. -/
theorem Ws.appN {M7 M8 : List (Value × Value)} {L1 L2 : List Rw} {vn : Value} {ns : List Int} (h : Ws w1 w b7 b8 M7 M8 (L1 ++ rwI vn ns :: L2)) (x : Int) {g : Nat} (hg : w.heap[g]? = some (.cells #[.int .i64 x] 3 (0, 0))) (hn : ns.length ≤ 1000000) :
    ∃ v' w', (Builtin.append_ #[31, 31] 31 #[vn, .slice (some ⟨g, 0, none⟩) 1 1]).run Tryz.prog w = .ok v' w' ∧ Ws w1 w' b7 b8 M7 M8 (L1 ++ rwI v' (ns ++ [x]) :: L2) := by
  obtain ⟨v', w', r1, r2, r3, r4⟩ := app_intsL w w1.heap.size 31 vn ns [x] (some ⟨g, 0, none⟩) 1 h.rows.mid (ints_one hg) (by simp) (by simp; omega) h.ext.size
  exact ⟨v', w', r1, h.app r3 r2 r4⟩
/-- A group is appended to a block's row. -/
theorem Ws.appG {M7 M8 : List (Value × Value)} {L1 L2 : List Rw} {v : Value} {ks : List (List Int)} (h : Ws w1 w b7 b8 M7 M8 (L1 ++ rwG v ks :: L2)) (x : List Int) {g : Nat} (hg : w.heap[g]? = some (.cells (grC x).toArray 191 (0, 0))) (hn : ks.length ≤ 1000000) :
    ∃ v' w', (Builtin.append_ #[193, 193] 193 #[v, .slice (some ⟨g, 0, none⟩) 1 1]).run Tryz.prog w = .ok v' w' ∧ Ws w1 w' b7 b8 M7 M8 (L1 ++ rwG v' (ks ++ [x]) :: L2) := by
  obtain ⟨v', w', r1, r2, r3, r4⟩ := app_grL w w1.heap.size 193 v ks x g 1 h.rows.mid hg hn h.ext.size
  exact ⟨v', w', r1, h.app r3 r2 r4⟩
end
def updF {κ β : Type} [DecidableEq κ] (f : κ → β) (k : κ) (v : β) : κ → β := fun x => if x = k then v else f x
theorem G7_upd (mem : List Int → List Int) (key : List Int) (v : List Int) : ∀ gs : List (List Int × Value), key ∉ gs.map Prod.fst → G7 (updF mem key v) gs = G7 mem gs
  | [], _ => rfl
  | g :: gs, h => by
    simp only [List.map_cons, List.mem_cons, not_or] at h
    unfold G7 at *
    simp only [List.map_cons, List.cons.injEq]
    refine ⟨?_, G7_upd mem key v gs h.2⟩
    unfold updF
    rw [if_neg (fun e => h.1 e.symm)]
theorem G8_upd (kb : Int → List (List Int)) (b : Int) (v : List (List Int)) : ∀ bs : List (Int × Value), b ∉ bs.map Prod.fst → G8 (updF kb b v) bs = G8 kb bs
  | [], _ => rfl
  | g :: bs, h => by
    simp only [List.map_cons, List.mem_cons, not_or] at h
    unfold G8 at *
    simp only [List.map_cons, List.cons.injEq]
    refine ⟨?_, G8_upd kb b v bs h.2⟩
    unfold updF
    rw [if_neg (fun e => h.1 e.symm)]
theorem M7l_mem {gs : List (List Int × Value)} {key : List Int} (h : key ∉ gs.map Prod.fst) : ∀ p ∈ M7l gs, p.1 ≠ grV key := by
  intro p hp
  obtain ⟨g, hg, rfl⟩ := List.mem_map.1 hp
  intro e
  exact h (by rw [← grV_inj e]; exact List.mem_map_of_mem hg)
theorem M8l_mem {bs : List (Int × Value)} {b : Int} (h : b ∉ bs.map Prod.fst) : ∀ p ∈ M8l bs, p.1 ≠ .int .i64 b := by
  intro p hp
  obtain ⟨g, hg, rfl⟩ := List.mem_map.1 hp
  intro e
  simp only [Value.int.injEq, true_and] at e
  exact h (by rw [← e]; exact List.mem_map_of_mem hg)
theorem split_key {κ : Type} {gs : List (κ × Value)} {key : κ} (h : key ∈ gs.map Prod.fst) : ∃ g1 v g2, gs = g1 ++ (key, v) :: g2 := by
  obtain ⟨⟨k, v⟩, hg, rfl⟩ := List.mem_map.1 h
  obtain ⟨g1, g2, rfl⟩ := List.append_of_mem hg
  exact ⟨g1, v, g2, rfl⟩
theorem nodup_split {κ : Type} {g1 g2 : List (κ × Value)} {key : κ} {v : Value} (h : ((g1 ++ (key, v) :: g2).map Prod.fst).Nodup) : key ∉ g1.map Prod.fst ∧ key ∉ g2.map Prod.fst := by
  rw [List.map_append, List.map_cons, List.nodup_append, List.nodup_cons] at h
  exact ⟨fun e => h.2.2 _ e _ (by simp) rfl, h.2.1.1⟩
theorem M7l_nodup {gs : List (List Int × Value)} (h : ((M7l gs).map Prod.fst).Nodup) : (gs.map Prod.fst).Nodup := by
  have e : (M7l gs).map Prod.fst = (gs.map Prod.fst).map grV := by simp [M7l]
  rw [e] at h
  exact (List.pairwise_map.1 h).imp (fun hne e => hne (congrArg _ e))
theorem M8l_nodup {bs : List (Int × Value)} (h : ((M8l bs).map Prod.fst).Nodup) : (bs.map Prod.fst).Nodup := by
  have e : (M8l bs).map Prod.fst = (bs.map Prod.fst).map (fun x : Int => Value.int .i64 x) := by simp [M8l]
  rw [e] at h
  exact (List.pairwise_map.1 h).imp (fun hne e => hne (congrArg _ e))
theorem M7l_app (a b : List (List Int × Value)) : M7l (a ++ b) = M7l a ++ M7l b := by simp [M7l]
theorem M8l_app (a b : List (Int × Value)) : M8l (a ++ b) = M8l a ++ M8l b := by simp [M8l]
theorem G7_app (f) (a b : List (List Int × Value)) : G7 f (a ++ b) = G7 f a ++ G7 f b := by simp [G7]
theorem G8_app (f) (a b : List (Int × Value)) : G8 f (a ++ b) = G8 f a ++ G8 f b := by simp [G8]
section
variable {w1 w : World} {b7 b8 : Nat}
/-- A number is appended to the members of a group, the group's entry made where there is none. -/
theorem p12 {M8 : List (Value × Value)} {gs : List (List Int × Value)} {X Y : List Rw} {mem : List Int → List Int} {key : List Int} (h : Ws w1 w b7 b8 (M7l gs) M8 (X ++ (G7 mem gs ++ Y))) (hl : key.length = 9) (hw : ∀ x ∈ key, wf64 x)
    (hm : key ∉ gs.map Prod.fst → mem key = []) (hgl : gs.length ≤ 1000000) (hml : (mem key).length ≤ 1000000) (x : Int) {g : Nat} (hg : w.heap[g]? = some (.cells #[.int .i64 x] 3 (0, 0))) :
    ∃ v0 st w', (Instr.mapEntry 187 (.map (some b7)) (grV key)).run Tryz.prog w = .ok (.tuple #[v0, .int .i64 (st : Nat)]) w' ∧
    ∃ v' w'', (Builtin.append_ #[31, 31] 31 #[v0, .slice (some ⟨g, 0, none⟩) 1 1]).run Tryz.prog w' = .ok v' w'' ∧
    ∃ w3, (Instr.entryStore 187 (.map (some b7)) (.int .i64 (st : Nat)) v').run Tryz.prog w'' = .ok () w3 ∧
    ∃ gs', gs'.map Prod.fst = (if key ∈ gs.map Prod.fst then gs.map Prod.fst else gs.map Prod.fst ++ [key]) ∧ Ws w1 w3 b7 b8 (M7l gs') M8 (X ++ (G7 (updF mem key (mem key ++ [x])) gs' ++ Y)) := by
  have hgb : g ≠ b7 := by
    rintro rfl
    obtain ⟨es, clock, hb, -⟩ := h.m7
    rw [hg] at hb; cases hb
  have hnd := M7l_nodup h.m7.nodup
  by_cases hk : key ∈ gs.map Prod.fst
  · obtain ⟨g1, v, g2, rfl⟩ := split_key hk
    obtain ⟨n1, n2⟩ := nodup_split hnd
    have hj : (M7l (g1 ++ (key, v) :: g2))[g1.length]? = some (grV key, v) := by simp [M7l]
    obtain ⟨st, w', r1, e1, t1⟩ := h.m7.entry_old keyed191 Tryz.underlying187 (key191 hl hw) hj
    have h1 := h.turn7 e1.map t1
    rw [G7_app] at h1
    have h2 : Ws w1 w' b7 b8 (M7l (g1 ++ (key, v) :: g2)) M8 ((X ++ G7 mem g1) ++ rwI v (mem key) :: (G7 mem g2 ++ Y)) := by
      have e : X ++ (G7 mem g1 ++ G7 mem ((key, v) :: g2) ++ Y) = (X ++ G7 mem g1) ++ rwI v (mem key) :: (G7 mem g2 ++ Y) := by simp [G7]
      rwa [e] at h1
    have hg' : w'.heap[g]? = some (.cells #[.int .i64 x] 3 (0, 0)) := by rw [t1.block g hgb]; exact hg
    obtain ⟨v', w'', r2, r3, r4, r5⟩ := app_intsL w' w1.heap.size 31 v (mem key) [x] (some ⟨g, 0, none⟩) 1 h2.rows.mid (ints_one hg') (by simp) (by simp; omega) h2.ext.size
    have h3 := h2.app r4 (r' := rwI v' (mem key ++ [x])) r3 r5
    have e2 : EntAt 191 w'' b7 (M7l (g1 ++ (key, v) :: g2)) g1.length st := e1.of_block (r4.block b7 h2.m7.lt (fun e => map_ne_row h2.m7 h2.rows.mid b7 (by first | exact e | exact e.symm) rfl))
    obtain ⟨w3, r6, m3, t3⟩ := e2.store hj v'
    have h4 := h3.turn7 m3 t3
    refine ⟨v, st, w', r1, v', w'', r2, w3, r6, g1 ++ (key, v') :: g2, by simp, ?_⟩
    have e3 : (M7l (g1 ++ (key, v) :: g2)).set g1.length (grV key, v') = M7l (g1 ++ (key, v') :: g2) := by
      unfold M7l
      rw [List.map_append, List.map_append, List.set_append_right _ _ (by simp)]
      simp
    rw [e3] at h4
    have e4 : X ++ (G7 (updF mem key (mem key ++ [x])) (g1 ++ (key, v') :: g2) ++ Y) = (X ++ G7 mem g1) ++ rwI v' (mem key ++ [x]) :: (G7 mem g2 ++ Y) := by
      rw [G7_app, G7_upd _ _ _ _ n1]
      have : G7 (updF mem key (mem key ++ [x])) ((key, v') :: g2) = rwI v' (mem key ++ [x]) :: G7 mem g2 := by
        have := G7_upd mem key (mem key ++ [x]) g2 n2
        unfold G7 at this ⊢
        rw [List.map_cons, this]
        simp [updF]
      rw [this]; simp
    rw [e4]; exact h4
  · have hz := hm hk
    obtain ⟨st, w', r1, e1, t1⟩ := h.m7.entry_new keyed191 Tryz.underlying187 (zero31 w) (key191 hl hw) (M7l_mem hk) (by simp [M7l, maxLen]; omega)
    have h1 := (h.turn7 e1.map t1).nilrow 3 1
    have h2 : Ws w1 w' b7 b8 (M7l gs ++ [(grV key, .slice none 0 0)]) M8 ([] ++ rwI (.slice none 0 0) [] :: (X ++ (G7 mem gs ++ Y))) := h1
    have hg' : w'.heap[g]? = some (.cells #[.int .i64 x] 3 (0, 0)) := by rw [t1.block g hgb]; exact hg
    obtain ⟨v', w'', r2, r3, r4, r5⟩ := app_intsL w' w1.heap.size 31 (.slice none 0 0) [] [x] (some ⟨g, 0, none⟩) 1 h2.rows.mid (ints_one hg') (by simp) (by simp) h2.ext.size
    have h3 := h2.app r4 (r' := rwI v' [x]) r3 r5
    have e2 : EntAt 191 w'' b7 (M7l gs ++ [(grV key, .slice none 0 0)]) (M7l gs).length st := e1.of_block (r4.block b7 h2.m7.lt (fun e => map_ne_row h2.m7 h2.rows.mid b7 (by first | exact e | exact e.symm) rfl))
    obtain ⟨w3, r6, m3, t3⟩ := e2.store (key := grV key) (v0 := .slice none 0 0) (by simp) v'
    have h4 := h3.turn7 m3 t3
    refine ⟨.slice none 0 0, st, w', r1, v', w'', r2, w3, r6, gs ++ [(key, v')], by simp [hk], ?_⟩
    have e3 : (M7l gs ++ [(grV key, Value.slice none 0 0)]).set (M7l gs).length (grV key, v') = M7l (gs ++ [(key, v')]) := by
      rw [M7l_app, List.set_append_right _ _ (Nat.le_refl _)]
      simp [M7l]
    rw [e3] at h4
    refine h4.perm ?_
    rw [G7_app, G7_upd _ _ _ _ hk]
    have : G7 (updF mem key (mem key ++ [x])) [(key, v')] = [rwI v' [x]] := by simp [G7, updF, hz]
    rw [this]
    simp only [List.nil_append, List.append_assoc, List.singleton_append]
    rw [← List.append_assoc, ← List.append_assoc]
    exact List.perm_middle.symm
end
section
variable {w1 w : World} {b7 b8 : Nat}
/-- A group is appended to the row of a block, the block's entry made where there is none. -/
theorem p11 {M7 : List (Value × Value)} {bs : List (Int × Value)} {X Y : List Rw} {kb : Int → List (List Int)} {b : Int} (h : Ws w1 w b7 b8 M7 (M8l bs) (X ++ (Y ++ G8 kb bs))) (hb : wf64 b)
    (hz : b ∉ bs.map Prod.fst → kb b = []) (hbl : bs.length ≤ 1000000) (hkl : (kb b).length ≤ 1000000) (key : List Int) :
    ∃ (V : Value) (S : World → Value → Prop) (R : World → Prop),
      (∀ W, Ext w W → (Instr.lookup 188 (.map (some b8)) (.int .i64 b) false).run Tryz.prog W = .ok V W) ∧ (∃ a n c, V = .slice a n c ∧ ((n = 0) ↔ (kb b).length = 0)) ∧
      (∀ W, Ext w W → ∀ g, W.heap[g]? = some (.cells (grC key).toArray 191 (0, 0)) → ∃ v' w', (Builtin.append_ #[193, 193] 193 #[V, .slice (some ⟨g, 0, none⟩) 1 1]).run Tryz.prog W = .ok v' w' ∧ S w' v') ∧
      (∀ W v', S W v' → (Instr.mapUpdate 188 (.map (some b8)) (.int .i64 b) v').run Tryz.prog W = .ok () (mapW 188 W b8 (.int .i64 b) v') ∧ R (mapW 188 W b8 (.int .i64 b) v')) ∧
      (∀ W v', S W v' → ∀ r ∈ X, r.at W w1.heap.size) ∧
      (∀ W, R W → ∃ bs', bs'.map Prod.fst = (if b ∈ bs.map Prod.fst then bs.map Prod.fst else bs.map Prod.fst ++ [b]) ∧ Ws w1 W b7 b8 M7 (M8l bs') (X ++ (Y ++ G8 (updF kb b (kb b ++ [key])) bs'))) := by
  have hnd := M8l_nodup h.m8.nodup
  by_cases hk : b ∈ bs.map Prod.fst
  · obtain ⟨c1, v, c2, rfl⟩ := split_key hk
    obtain ⟨n1, n2⟩ := nodup_split hnd
    have hj : (M8l (c1 ++ (b, v) :: c2))[c1.length]? = some (.int .i64 b, v) := by simp [M8l]
    have e0 : X ++ (Y ++ G8 kb (c1 ++ (b, v) :: c2)) = (X ++ (Y ++ G8 kb c1)) ++ rwG v (kb b) :: G8 kb c2 := by simp [G8]
    rw [e0] at h
    have hv : ∃ a c, v = .slice a (kb b).length c := by
      rcases h.rows.mid.2 with ⟨e1, e2⟩ | ⟨g, cap, cur, e1, -⟩
      · have e1' : v = .slice none 0 0 := e1
        exact ⟨none, 0, by rw [e1']; rw [show (kb b).length = 0 from e2]⟩
      · exact ⟨_, _, e1⟩
    refine ⟨v, fun W v' => Ws w1 W b7 b8 M7 (M8l (c1 ++ (b, v) :: c2)) ((X ++ (Y ++ G8 kb c1)) ++ rwG v' (kb b ++ [key]) :: G8 kb c2),
      fun W => ∃ v', Ws w1 W b7 b8 M7 (M8l (c1 ++ (b, v') :: c2)) ((X ++ (Y ++ G8 kb c1)) ++ rwG v' (kb b ++ [key]) :: G8 kb c2), fun W e => ?_, ?_, fun W e g hg => (h.grow e).appG key hg hkl, fun W v' hs => ?_, fun W v' hs r hr => hs.rows.own r (by simp [hr]), fun W hW => ?_⟩
    · have := (h.m8.ext e).look_yes keyed3 Tryz.underlying188 (key3 hb) (List.mem_of_getElem? hj) false
      simpa using this
    · obtain ⟨a, c, hv⟩ := hv
      exact ⟨a, _, c, hv, Iff.rfl⟩
    · refine run_mapW (R := fun W => ∃ v', Ws w1 W b7 b8 M7 (M8l (c1 ++ (b, v') :: c2)) ((X ++ (Y ++ G8 kb c1)) ++ rwG v' (kb b ++ [key]) :: G8 kb c2)) ?_
      obtain ⟨w', r1, r2, r3⟩ := hs.m8.store_old keyed3 Tryz.underlying188 (key3 hb) (val := v') hj
      refine ⟨w', r1, v', ?_⟩
      have e3 : (M8l (c1 ++ (b, v) :: c2)).set c1.length (.int .i64 b, v') = M8l (c1 ++ (b, v') :: c2) := by
        unfold M8l
        rw [List.map_append, List.map_append, List.set_append_right _ _ (by simp)]
        simp
      rw [e3] at r2
      exact hs.turn8 r2 r3
    · obtain ⟨v', hs⟩ := hW
      refine ⟨c1 ++ (b, v') :: c2, by simp, ?_⟩
      have e4 : X ++ (Y ++ G8 (updF kb b (kb b ++ [key])) (c1 ++ (b, v') :: c2)) = (X ++ (Y ++ G8 kb c1)) ++ rwG v' (kb b ++ [key]) :: G8 kb c2 := by
        rw [G8_app, G8_upd _ _ _ _ n1]
        have : G8 (updF kb b (kb b ++ [key])) ((b, v') :: c2) = rwG v' (kb b ++ [key]) :: G8 kb c2 := by
          have := G8_upd kb b (kb b ++ [key]) c2 n2
          unfold G8 at this ⊢
          rw [List.map_cons, this]
          simp [updF]
        rw [this]; simp
      rw [e4]; exact hs
  · have hz0 := hz hk
    have h0 : Ws w1 w b7 b8 M7 (M8l bs) ([] ++ rwG (.slice none 0 0) [] :: (X ++ (Y ++ G8 kb bs))) := h.nilrow 191 9
    refine ⟨.slice none 0 0, fun W v' => Ws w1 W b7 b8 M7 (M8l bs) ([] ++ rwG v' [key] :: (X ++ (Y ++ G8 kb bs))),
      fun W => ∃ v', Ws w1 W b7 b8 M7 (M8l (bs ++ [(b, v')])) ([] ++ rwG v' [key] :: (X ++ (Y ++ G8 kb bs))), fun W e => ?_, ⟨none, 0, 0, rfl, by simp [hz0]⟩, fun W e g hg => (h0.grow e).appG key hg (by simp), fun W v' hs => ?_, fun W v' hs r hr => hs.rows.own r (by simp [hr]), fun W hW => ?_⟩
    · have := (h.m8.ext e).look_no keyed3 Tryz.underlying188 (zero193 W) (key3 hb) (M8l_mem hk) false
      simpa using this
    · refine run_mapW (R := fun W => ∃ v', Ws w1 W b7 b8 M7 (M8l (bs ++ [(b, v')])) ([] ++ rwG v' [key] :: (X ++ (Y ++ G8 kb bs)))) ?_
      obtain ⟨w', r1, r2, r3⟩ := hs.m8.store_new keyed3 Tryz.underlying188 (key3 hb) (val := v') (M8l_mem hk) (by simp [M8l, maxLen]; omega)
      refine ⟨w', r1, v', ?_⟩
      have e3 : M8l bs ++ [(.int .i64 b, v')] = M8l (bs ++ [(b, v')]) := by simp [M8l]
      rw [e3] at r2
      exact hs.turn8 r2 r3
    · obtain ⟨v', hs⟩ := hW
      refine ⟨bs ++ [(b, v')], by simp [hk], hs.perm ?_⟩
      rw [G8_app, G8_upd _ _ _ _ hk]
      have : G8 (updF kb b (kb b ++ [key])) [(b, v')] = [rwG v' [key]] := by simp [G8, updF, hz0]
      rw [this]
      simp only [List.nil_append]
      rw [← List.append_assoc, ← List.append_assoc, ← List.append_assoc]
      exact (List.perm_append_comm (l₁ := [rwG v' [key]])).trans (by simp)
end
end Go.Proofs.YtplbofhgmflnlaaGreat
