/-
  Texts merged: D1, D2, D3, K0, K1, K2.
-/
import Derived.Test.YtlahejakcgoheaaWL
section
/-
  Base words: slices of links that are the caller's own.
-/
set_option linter.unusedVariables false
set_option linter.unusedSimpArgs false
namespace Go.Proofs.Ytlahejakcgoheaa
open Go.RowKit
def lcl (x : Lv) : List Value := (lcells x).toList
theorem lcl_len (x : Lv) : (lcl x).length = 10 := rfl
theorem lcl_one (x : Lv) : ∀ u ∈ lcl x, u.oneCell' = true := by
  intro u hu
  simp only [lcl, lcells, List.mem_cons, List.not_mem_nil, or_false] at hu
  rcases hu with rfl | rfl | rfl | rfl | rfl | rfl | rfl | rfl | rfl | rfl <;> rfl
abbrev OwnL := OwnF 59 10 lcl
theorem info59 : (Try.prog.info? 59).map (fun i => (i.zero, i.size, i.bytes)) = some (some (.agg #[.int .u8 0, .string ⟨#[]⟩, .string ⟨#[]⟩, .int .i64 0, .int .i64 0, .int .i64 0, .int .i64 0, .slice none 0 0, .int .u64 0, .int .u64 0]), 10, 112) := by kernel_rfl
/-- Links with Bodies, all the caller's own, each in a block of its own. -/
structure OwnLs (w : World) (B : Nat) (a : Option Addr) (c : Nat) (xs : List Lv) : Prop where
  row : OwnL w B (.slice a xs.length c) xs
  bod : ∀ x ∈ xs, OwnB w B (.slice x.ba x.l.bo.length x.bc) x.l.bo
  nd : (ob a ++ xs.flatMap fun x => ob x.ba).Nodup
theorem OwnLs.ext {w w' : World} {B : Nat} {a : Option Addr} {c : Nat} {xs : List Lv} (h : OwnLs w B a c xs) (e : Ext w w') : OwnLs w' B a c xs := ⟨h.row.ext e, fun x hx => (h.bod x hx).ext e, h.nd⟩
theorem ob_own (a : Option Addr) (n c : Nat) (k : Nat) : k ∈ ob a ↔ (Value.slice a n c).ownBlock = some k := by
  cases a with
  | none => simp [ob, Value.ownBlock]
  | some d => simp [ob, Value.ownBlock, eq_comm]
theorem OwnLs.lt {w : World} {B : Nat} {a : Option Addr} {c : Nat} {xs : List Lv} (h : OwnLs w B a c xs) : ∀ k ∈ ob a ++ xs.flatMap (fun x => ob x.ba), B ≤ k ∧ k < w.heap.size := by
  intro k hk
  rcases List.mem_append.1 hk with hk | hk
  · exact World.ownsRow.lt h.row k ((ob_own _ _ _ _).1 hk)
  · obtain ⟨x, hx, hk⟩ := List.mem_flatMap.1 hk
    exact (h.bod x hx).lt k ((ob_own _ _ _ _).1 hk)
theorem OwnB.of_block {w w' : World} {B : Nat} {v : Value} {xs : List UInt8} (h : OwnB w B v xs) (hk : ∀ k, v.ownBlock = some k → w'.heap[k]? = w.heap[k]?) : OwnB w' B v xs := by
  rcases h with h | ⟨g, cap, cur, fz, hv, hg, hh, r⟩
  · exact .inl h
  · exact .inr ⟨g, cap, cur, fz, hv, hg, (hk g (by rw [hv]; rfl)).trans hh, r⟩
/-- 'append(v, x)' at the caller's own links. -/
theorem app_links (ty : TypeId) (w : World) (B : Nat) (a : Option Addr) (c : Nat) (xs : List Lv) (h : OwnLs w B a c xs) (hB : B ≤ w.heap.size) (x : Lv) (hx : OwnB w B (.slice x.ba x.l.bo.length x.bc) x.l.bo) (hf : ∀ k ∈ ob x.ba, k ∉ ob a ∧ ∀ y ∈ xs, k ∉ ob y.ba) (hn : xs.length ≤ 1000000) :
    ∃ v' w', (Builtin.append_ #[38, 38] ty #[.slice a xs.length c, .slice (some ⟨w.heap.size, 0, none⟩) 1 1]).run Try.prog (w.alloc (.cells (lcells x) 59)) = .ok v' w' ∧
      ∃ a' c', v' = .slice a' (xs ++ [x]).length c' ∧ OwnLs w' B a' c' (xs ++ [x]) ∧ (w.alloc (.cells (lcells x) 59)).grownBy w' (a.map (·.block)) := by
  obtain ⟨i0, hi, hz0, hz1, hz2⟩ := info_parts info59
  have e0 := (Ext.refl w).alloc (.cells (lcells x) 59)
  obtain ⟨v', w', r1, r2, r3, r4⟩ := app_struct 38 ty 59 lcl lcl_len lcl_one (by omega) Try.underlying38 hi hz0 hz1 hz2 rfl (by omega) (w.alloc (.cells (lcells x) 59)) B _ xs (h.row.ext e0) x w.heap.size (by rw [heap_new]; rfl) hn (by rw [heap_size]; omega)
  obtain ⟨a', c', rfl⟩ := own_slice r2
  have hown : (Value.slice a xs.length c).ownBlock = a.map (·.block) := ob_of_own _ _ _
  rw [hown] at r3
  have hlt := h.lt
  have hxl : ∀ k ∈ ob x.ba, B ≤ k ∧ k < w.heap.size := fun k hk => hx.lt k ((ob_own _ _ _ _).1 hk)
  have hnew : ∀ k ∈ ob a', k ∈ ob a ∨ k = w.heap.size + 1 := fun k hk => by
    have hk2 := (ob_own _ (xs ++ [x]).length c' _).1 hk
    rcases r4 with r4 | r4
    · rw [hk2] at r4; exact .inl ((ob_own _ xs.length c _).2 r4.symm)
    · rw [hk2, heap_size] at r4; right; simpa using r4
  have hbk : ∀ k, k < w.heap.size → k ∉ ob a → w'.heap[k]? = w.heap[k]? := fun k q q2 => by
    rw [r3.block k (by rw [heap_size]; omega) (fun e => q2 (by simp [ob, ← e])), heap_old _ _ _ q]
  have hnd := h.nd
  rw [List.nodup_append] at hnd
  obtain ⟨n1, n2, n3⟩ := hnd
  refine ⟨_, w', r1, a', c', rfl, ⟨r2, fun y hy => ?_, ?_⟩, r3⟩
  · rcases List.mem_append.1 hy with hy | hy
    · refine (h.bod y hy).of_block fun k hk => ?_
      have hk2 := (ob_own y.ba _ _ _).2 hk
      have hm : k ∈ xs.flatMap fun x => ob x.ba := List.mem_flatMap.2 ⟨y, hy, hk2⟩
      exact hbk k (hlt k (List.mem_append_right _ hm)).2 fun q => n3 k q k hm rfl
    · simp at hy; subst hy
      refine hx.of_block fun k hk => ?_
      have hk2 := (ob_own y.ba _ _ _).2 hk
      exact hbk k (hxl k hk2).2 (hf k hk2).1
  · rw [List.flatMap_append, List.nodup_append]
    have hob1 : ∀ (q : Option Addr), (ob q).Nodup := fun q => by cases q <;> simp [ob]
    refine ⟨hob1 _, ?_, fun k hk j hj e => ?_⟩
    · rw [List.nodup_append]
      refine ⟨n2, by simpa using hob1 x.ba, fun k hk j hj e => ?_⟩
      subst e
      simp at hj
      obtain ⟨y, hy, hk2⟩ := List.mem_flatMap.1 hk
      exact (hf k hj).2 y hy hk2
    · subst e
      rcases List.mem_append.1 hj with hj | hj
      · rcases hnew k hk with q | q
        · exact n3 k q k hj rfl
        · have := (hlt k (List.mem_append_right _ hj)).2; omega
      · simp at hj
        rcases hnew k hk with q | q
        · exact (hf k hj).1 q
        · have := (hxl k hj).2; omega
theorem LinkAt.cells {w : World} {b : Nat} {x : Lv} (h : LinkAt w b x) : LinkC w b 0 x := by
  obtain ⟨c0, c1, c2, c3, c4, c5, c6, c7, c8, c9⟩ := obj_cells10 h.1
  exact ⟨c0 w (Ext.refl _), c1 w (Ext.refl _), c2 w (Ext.refl _), c3 w (Ext.refl _), c4 w (Ext.refl _), c5 w (Ext.refl _), c6 w (Ext.refl _), c7 w (Ext.refl _), c8 w (Ext.refl _), c9 w (Ext.refl _)⟩
/-- What 'Dump' leaves. -/
def RetDump (ls : List Lk) (w : World) (e : Ending) (w' : World) : Prop := ∃ a c xs, e = .returned (.slice a xs.length c) ∧ Ext w w' ∧ lks xs = ls ∧ OwnLs w' w.heap.size a c xs
theorem OwnLs.nil (w : World) (B : Nat) : OwnLs w B none 0 [] := ⟨OwnF.nil _ _ _ _ _, by simp, by simp [ob]⟩
theorem dump_nil (w : World) : Calls Try.prog 27 #[.pointer none] w (RetDump [] w) := by
  go_enter Try.func27, Try.ntmps27
  go_wp2_with (fail)
  go_ret
  exact ⟨none, 0, [], rfl, Ext.refl _, rfl, OwnLs.nil _ _⟩
set_option maxRecDepth 100000 in
set_option maxHeartbeats 4000000 in
theorem dump_any (V : Vw) (w : World) (h : VwAt w V V.chain) (hn : V.chain.length ≤ 1000000) : Calls Try.prog 27 #[ptr V.vb] w (RetDump V.p.chain w) := by
  obtain ⟨c0, c1, c2, c3⟩ := obj_cells4 h.blk
  replace c3 := c3 w (Ext.refl _)
  have HH := Lib.hid h
  have hch : V.p.chain = V.chain.map Cl.l := rfl
  have HCH := Lib.hid hch
  clear c0 c1 c2 h hch
  go_enter Try.func27, Try.ntmps27
  go_wp2_with (fail)
  go_loopw [3, 13] (fun s i wr => ∃ (k : Nat) (a : Option Addr) (c : Nat), k ≤ V.chain.length ∧ i = .int .i64 k ∧ s = .slice a k c ∧ Hid (∃ xs, xs.length = k ∧ lks xs = (V.p.chain).take k ∧ OwnLs wr w.heap.size a c xs) ∧ Hid (Ext w wr)) (fun _ i _ => V.chain.length - (intOf i).toNat)
  case atStart => exact ⟨0, none, 0, Nat.zero_le _, rfl, rfl, ⟨[], rfl, rfl, OwnLs.nil _ _⟩, Ext.refl _⟩
  case round =>
    obtain ⟨k, a, c, hk, rfl, rfl, hv, he⟩ := hrel
    by_cases hlt : k < V.chain.length
    · obtain ⟨xs, hxl, hxs, hown⟩ := hv.out
      have hh := HH.out.ext he.out
      obtain ⟨g, hg1, hg2⟩ := row_at hh.row k hlt
      rw [hg1]
      replace hg2 := hg2 wr (Ext.refl _)
      obtain ⟨y, hy⟩ : ∃ y, y = V.chain[k] := ⟨_, rfl⟩
      rw [← hy] at hg2
      obtain ⟨q1, q2, -⟩ := hh.links y (hh.chain y (by rw [hy]; exact List.getElem_mem hlt))
      have hcp := copied_any y.b 0 y.x wr q1.cells q1.2 q2.bo
      have htk : (V.p.chain).take (k + 1) = (V.p.chain).take k ++ [y.l] := by
        rw [HCH.out, List.take_succ_eq_append_getElem (by simpa using hlt)]; simp [hy]
      have HCP := Lib.hid hcp; have HTK := Lib.hid htk; have HOWN := Lib.hid hown; have HXL := Lib.hid hxl; have HXS := Lib.hid hxs
      clear hv hh hg1 hy q1 q2 hcp htk hown hxl hxs
      have hi0 : (0 : Int) ≤ (k : Int) := by omega
      have hi1 : (k : Int) < (V.chain.length : Int) := by omega
      go_wp2_with (fail)
      (with_reducible refine HCP.out.mono ?_); rintro e w1 ⟨ba, bc, rfl, he1, hob⟩
      have hown1 := HOWN.out.ext he1
      have happ := app_links 38 w1 w.heap.size a c xs hown1 (by have := he.out.size; have := he1.size; omega) ⟨y.x.l, ba, bc⟩ (hob.mono he.out.size) (fun q hq => by
        have hq1 := (hob.lt q ((ob_own _ _ _ _).1 hq)).1
        have hq2 := HOWN.out.lt
        refine ⟨fun e => ?_, fun z hz e => ?_⟩
        · have := (hq2 q (List.mem_append_left _ e)).2; omega
        · have := (hq2 q (List.mem_append_right _ (List.mem_flatMap.2 ⟨z, hz, e⟩))).2; omega) (by rw [HXL.out]; omega)
      rw [HXL.out] at happ
      simp only [lcells] at happ
      have HA := Lib.hid happ; have HE1 := Lib.hid he1
      clear hob hown1 happ he1 hg2
      go_wp2_with (at_builtin; refine wpList_app _ rfl _ _ 38 rfl _ HA.out ?_; rintro v' w2 ⟨a', c', rfl, hown2, hg2⟩; have hx2 := grown_ext (w := w) (((he.out.trans HE1.out).alloc _)) hg2 (fun q hq => (HOWN.out.lt q (List.mem_append_left _ (by cases a with | none => cases hq | some d => simp at hq; simp [ob, hq]))).1); have hlen : (xs ++ [(⟨y.x.l, ba, bc⟩ : Lv)]).length = k + 1 := (by simp [HXL.out]); have HO2 := Lib.hid hown2; have HX2 := Lib.hid hx2; have HLE := Lib.hid hlen; rw [hlen]; clear hown2 hx2 hlen hg2)
      go_roundw
      case rel => exact ⟨k + 1, a', c', by omega, by go_num, rfl, ⟨_, HLE.out, by rw [HTK.out, ← HXS.out]; simp [lks], HO2.out⟩, HX2.out⟩
      case measure => simp [intOf]; omega
    · obtain rfl : k = V.chain.length := by omega
      obtain ⟨xs, hxl, hxs, hown⟩ := hv.out
      have HOWN := Lib.hid hown; have HXL := Lib.hid hxl; have HXS := Lib.hid hxs
      clear hv hown hxl hxs
      go_wp2_with (fail)
      go_ret
      refine ⟨a, c, xs, by rw [HXL.out]; rfl, he.out, ?_, HOWN.out⟩
      rw [HXS.out, List.take_of_length_le (by rw [HCH.out]; simp)]
end Go.Proofs.Ytlahejakcgoheaa
end
section
/-
  Plain words of Load; the walk of Load.
-/
set_option linter.unusedVariables false
set_option linter.unusedSimpArgs false
namespace Go.Proofs.Ytlahejakcgoheaa
open Go.RowKit
/-- Links, put one after another. -/
def putsP : PV → List Lk → Option PV
  | S, [] => some S
  | S, l :: ls => if couldB S l then putsP (putS S l) ls else none
theorem putsP_app : ∀ (S : PV) (xs ys : List Lk), putsP S (xs ++ ys) = (putsP S xs).bind fun T => putsP T ys
  | S, [], ys => rfl
  | S, l :: xs, ys => by
    simp only [List.cons_append, putsP]
    split
    · exact putsP_app _ xs ys
    · rfl
theorem putS_chain (S : PV) (l : Lk) : (putS S l).chain = S.chain ++ [l] := by
  unfold putS
  split
  · rfl
  · split <;> rfl
theorem putsP_chain : ∀ (ls : List Lk) (S T : PV), putsP S ls = some T → T.chain = S.chain ++ ls
  | [], S, T, h => by cases h; simp
  | l :: ls, S, T, h => by
    simp only [putsP] at h
    split at h
    · rw [putsP_chain ls _ _ h, putS_chain]; simp
    · cases h
def loadE (ls : List Lk) : Int := if 20000 < ls.length then 5 else if 0 ≤ checkI 7 0 ls then 112 else if (putsP PV.new ls).isSome then 0 else 112
def loadS (ls : List Lk) : PV := (putsP PV.new ls).getD PV.new
theorem checkI_ge : ∀ (ls : List Lk) (b i : Nat), -1 ≤ checkI b i ls
  | [], _, _ => by simp [checkI]
  | l :: ls, b, i => by
    unfold checkI; split
    · exact checkI_ge ls _ _
    · omega
theorem checkI_links : ∀ (ls : List Lk) (b i : Nat), checkI b i ls < 0 → ∀ k (hk : k < ls.length), (ls[k]).ch = chainN (if k = 0 then b else (ls[k - 1]'(by omega)).ch) ls[k]
  | l :: ls, b, i, h, k, hk => by
    unfold checkI at h
    split at h
    · rename_i q
      cases k with
      | zero => simpa using q.symm
      | succ k =>
        have := checkI_links ls l.ch (i + 1) h k (by simpa using hk)
        simp only [List.getElem_cons_succ, Nat.add_sub_cancel, if_neg (Nat.succ_ne_zero k)]
        rw [this]
        cases k with
        | zero => simp
        | succ k => simp
    · omega
theorem lastN_take {ls : List Lk} {k : Nat} (hk : k ≤ ls.length) : lastN (ls.take k) = if h : k = 0 then 7 else (ls[k - 1]'(by omega)).ch := by
  by_cases h : k = 0
  · subst h; simp [lastN]
  · rw [dif_neg h]
    unfold lastN
    rw [List.getLast?_eq_getElem?, List.length_take, Nat.min_eq_left hk, List.getElem?_take, if_pos (by omega), List.getElem?_eq_getElem (by omega)]
theorem good_puts {ls : List Lk} (h : checkI 7 0 ls < 0) : ∀ k, k ≤ ls.length → ∀ S, putsP PV.new (ls.take k) = some S → Good S
  | 0, _, S, e => by simp [putsP] at e; rw [← e]; exact Good.new
  | k + 1, hk, S, e => by
    have ht : ls.take (k + 1) = ls.take k ++ [ls[k]] := List.take_succ_eq_append_getElem (by omega)
    rw [ht, putsP_app] at e
    cases e1 : putsP PV.new (ls.take k) with
    | none => rw [e1] at e; cases e
    | some T =>
      rw [e1] at e
      simp only [Option.bind_some, putsP] at e
      split at e
      · rename_i q
        cases e
        refine Good.put (good_puts h k (by omega) T e1) q ?_
        have hc := putsP_chain _ _ _ e1
        have : T.chain = ls.take k := by rw [hc]; simp [PV.new]
        rw [this, lastN_take (by omega), checkI_links ls 7 0 h k (by omega)]
        congr 1
      · cases e
theorem loadS_good {ls : List Lk} (h : loadE ls = 0) : Good (loadS ls) ∧ (loadS ls).chain = ls ∧ putsP PV.new ls = some (loadS ls) := by
  unfold loadE at h
  split at h
  · omega
  · split at h
    · omega
    · rename_i q
      split at h
      · rename_i q2
        obtain ⟨S, hS⟩ := Option.isSome_iff_exists.1 q2
        have : loadS ls = S := by unfold loadS; rw [hS]; rfl
        rw [this]
        refine ⟨good_puts (by omega) ls.length (Nat.le_refl _) S (by rw [List.take_length]; exact hS), ?_, hS⟩
        rw [putsP_chain _ _ _ hS]; simp [PV.new]
      · omega
end Go.Proofs.Ytlahejakcgoheaa
end
section
/-
  Walk: Load.
-/
set_option linter.unusedVariables false
set_option linter.unusedSimpArgs false
namespace Go.Proofs.Ytlahejakcgoheaa
open Go.RowKit
/-- What 'Load' leaves. -/
def RetLoad (ls : List Lk) (w : World) (e : Ending) (w' : World) : Prop :=
  if loadE ls = 0 then ∃ b F A, e = .returned (.tuple #[ptr b, .int .i64 0]) ∧ VaultAt w' b (loadS ls) F A ∧ Ext w w' ∧ (∀ k ∈ F, w.heap.size ≤ k) ∧ ∀ k ∈ A, w.heap.size ≤ k
  else e = .returned (.tuple #[.pointer none, .int .i64 (loadE ls)]) ∧ Ext w w'
theorem RetLoad.bad {ls : List Lk} {q : Int} (hq : loadE ls = q) (h0 : q ≠ 0) {w w' : World} (he : Ext w w') : RetLoad ls w (.returned (.tuple #[.pointer none, .int .i64 q])) w' := by
  unfold RetLoad; rw [if_neg (by rw [hq]; exact h0), hq]; exact ⟨rfl, he⟩
/-- What is so at the head of the loop. -/
def LoadI (vb : Nat) (ls : List Lk) (w wr : World) : Prop := ∃ V : Vw, V.vb = vb ∧ putsP PV.new ls = some V.p ∧ VwAt wr V V.chain ∧ (∀ k ∈ foot V, w.heap.size ≤ k) ∧ (∀ k ∈ V.chain.flatMap lfoot, w.heap.size ≤ k) ∧ Ext w wr
theorem Upd.fresh {F : List Nat} {w0 w w' : World} (e : Ext w0 w) (h : Upd F w w') (hF : ∀ k ∈ F, w0.heap.size ≤ k) : Ext w0 w' :=
  ⟨h.os.trans e.os, h.tape.trans e.tape, h.output.trans e.output, Nat.le_trans e.size h.size, fun k hk => by
    rw [h.block k (Nat.lt_of_lt_of_le hk e.size) (fun q => by have := hF k q; omega), Below.block e k hk]⟩
theorem load_step {w w0 : World} {V : Vw} {y : Cl} {S : List Lk} {e : Ending} {w' : World} (hV : putsP PV.new S = some V.p) (hw : w.heap.size ≤ w0.heap.size) (e0 : Ext w w0) (hF : ∀ k ∈ foot V, w.heap.size ≤ k) (hA : ∀ k ∈ V.chain.flatMap lfoot, w.heap.size ≤ k) (hy : ∀ k ∈ lfoot y, w.heap.size ≤ k) (hc : couldB V.p y.l = true)
    (h : RetPutB V y w0 e w') : e = .returned (.bool true) ∧ LoadI V.vb (S ++ [y.l]) w w' := by
  unfold RetPutB at h
  rw [if_pos hc] at h
  obtain ⟨he, V', p1, p2, p3, p4, p5, p6⟩ := h
  refine ⟨he, V', p2, ?_, p4, fun k q => ?_, fun k q => ?_, p5.fresh e0 hF⟩
  · rw [putsP_app, hV]; simp only [Option.bind_some, putsP, if_pos hc, p1]
  · rcases p6 k q with q | q
    · exact hF k q
    · omega
  · rw [p3, List.flatMap_append] at q
    rcases List.mem_append.1 q with q | q
    · exact hA k q
    · exact hy k (by simpa using q)
set_option maxRecDepth 100000 in
set_option maxHeartbeats 4000000 in
theorem load_any (a : Option Addr) (xs : List Lv) (c : Nat) (w : World) (h : Links w a xs) (ho : LksOk xs) (hl : xs.length ≤ 9223372036854775807) :
    Calls Try.prog 34 #[.slice a xs.length c] w (RetLoad (lks xs) w) := by
  have hck := check_any a xs c w h ho hl
  have hll := lks_len xs
  have hge := checkI_ge (lks xs) 7 0
  have HX := Lib.hid h; have HO := Lib.hid ho; have HCK := Lib.hid hck; have HL := Lib.hid hll; have HG := Lib.hid hge
  obtain ⟨n, hn⟩ : ∃ n, n = xs.length := ⟨_, rfl⟩
  have HN := Lib.hid hn
  rw [← hn] at HCK hl ⊢
  clear h ho hck hll hge hn
  cases T1 : decide (20000 < (n : Int))
  · have hn2 : n ≤ 20000 := by simp at T1; omega
    have HL1 : Hid (¬ 20000 < (lks xs).length) := by rw [Hid, HL.out, ← HN.out]; omega
    clear hn2
    go_enter Try.func34, Try.ntmps34
    go_wp2_with (fail)
    (with_reducible refine HCK.out.mono ?_); rintro e w1 ⟨rfl, he1⟩
    obtain ⟨ck, hcke⟩ : ∃ ck, ck = checkI 7 0 (lks xs) := ⟨_, rfl⟩
    rw [← hcke] at HCK HG ⊢
    have HCE := Lib.hid hcke
    clear hcke
    cases T2 : decide (0 ≤ ck)
    · have hneg : Hid (checkI 7 0 (lks xs) < 0) := by rw [Hid, ← HCE.out]; simp at T2; exact T2
      have hnw := fun W => new_any W
      have HNW := Lib.hid hnw
      clear hnw
      go_wp2_with (fail)
      (with_reducible refine (HNW.out _).mono ?_); rintro e w2 ⟨b, F, rfl, ⟨V0, hvb, hp0, hv0, hf0, ha0⟩, he2, hF⟩
      have hI : LoadI b ((lks xs).take 0) w w2 := ⟨V0, hvb, by rw [hp0]; rfl, hv0, fun k q => by rw [hf0] at q; have := hF k q; have := he1.size; omega, fun k q => (by rw [ha0] at q; cases q), he1.trans he2⟩
      have HI := Lib.hid hI
      clear hI hvb hp0 hv0 hf0 ha0 he2 hF
      go_wp2_with (fail)
      go_loopw [16] (fun i wr => ∃ (k : Nat), k ≤ n ∧ i = .int .i64 k ∧ Hid (LoadI b ((lks xs).take k) w wr)) (fun i _ => n - (intOf i).toNat)
      case atStart => exact ⟨0, Nat.zero_le _, rfl, HI⟩
      case round =>
        obtain ⟨k, hk, rfl, hi⟩ := hrel
        by_cases hlt : k < n
        · have hltx : k < xs.length := by rw [← HN.out]; exact hlt
          obtain ⟨V, hvb, hpp, hv, hF, hA, he⟩ := hi.out
          obtain ⟨ab, ao, ha, hlc⟩ := HX.out.at k hltx
          obtain ⟨x, hx⟩ : ∃ x, x = lth xs k := ⟨_, rfl⟩
          have hok := HO.out k hltx
          have hby := (HX.out.2 k hltx).ext he
          rw [← hx] at hlc hok hby
          have hcp := copied_any ab (ao + k * 10) x wr (hlc wr he) hby hok.bo
          have htk : (lks xs).take (k + 1) = (lks xs).take k ++ [x.l] := by
            rw [List.take_succ_eq_append_getElem (by rw [lks_len]; exact hltx)]
            simp [lks, hx, lth_eq _ _ hltx]
          have hgd : Good V.p := good_puts hneg.out k (by rw [lks_len]; omega) V.p hpp
          subst ha
          have HCP := Lib.hid hcp; have HTK := Lib.hid htk; have HGD := Lib.hid hgd; have HV := Lib.hid hv; have HPP := Lib.hid hpp; have HFF := Lib.hid hF; have HAA := Lib.hid hA; have HE := Lib.hid he; have HOK := Lib.hid hok; have HVB := Lib.hid hvb
          clear hvb hpp hv hF hA he hlc hok hby hcp htk hgd hx hi hltx
          have hi0 : (0 : Int) ≤ (k : Int) := by omega
          have hi1 : (k : Int) < (n : Int) := by omega
          go_wp2_with (fail)
          (with_reducible refine HCP.out.mono ?_); rintro e w3 ⟨ba, bc, rfl, he3, hob⟩
          have HE3 := Lib.hid he3; have HOB := Lib.hid hob
          clear he3 hob
          go_upto_region 10 with fail
          generalize hw4 : World.alloc _ _ = w4
          obtain ⟨he4, o1, -⟩ := alloc1 hw4
          obtain ⟨y, hy⟩ : ∃ y : Cl, y = ⟨w3.heap.size, ⟨x.l, ba, bc⟩⟩ := ⟨_, rfl⟩
          have h34 : Ext wr w4 := HE3.out.trans he4
          have hv4 := HV.out.ext h34
          have hob4 := HOB.out.ext he4
          have hlt3 : ∀ q ∈ ob ba, wr.heap.size ≤ q ∧ q < w3.heap.size := fun q hq => HOB.out.lt q ((ob_own _ _ _ _).1 hq)
          have hbo : ∀ q ∈ foot V, q < wr.heap.size := HV.out.lt
          have hs3 := HE3.out.size
          have hs4 := he4.size
          have hm := hv4.more y (by rw [hy]; exact ⟨o1, hob4.byts.1⟩) (by rw [hy]; exact HOK.out) (by rw [hy]; intro q; have := hbo _ q; simp only at this; omega)
            (by rw [hy]; intro q hq; have := hlt3 q hq; exact ⟨fun q2 => by have := hbo q q2; omega, by omega⟩) (by rw [hy]; exact hob4.byts.2.2)
          have hsh := HGD.out.inv.short
          have hpt : Calls Try.prog 60 #[ptr V.vb, ptr w3.heap.size] w4 (RetPutB V y w4) := by
            have := put_any V y w4 hv4 HGD.out.ok hm (by have : V.p.chain.length = V.chain.length := by simp [Vw.p]
                                                         omega)
            rwa [show y.b = w3.heap.size by rw [hy]] at this
          rw [HVB.out] at hpt
          have hyl : y.l = x.l := by rw [hy]
          have hyf : ∀ q ∈ lfoot y, w.heap.size ≤ q := by
            rw [hy]; intro q hq
            have := HE.out.size
            simp only [lfoot, List.mem_cons] at hq
            rcases hq with rfl | hq
            · omega
            · have := hlt3 q hq; omega
          have HPT := Lib.hid hpt; have HE4 := Lib.hid (HE.out.trans h34); have HYL := Lib.hid hyl; have HYF := Lib.hid hyf
          have hwS := HE4.out.size
          have HWS := Lib.hid hwS
          clear hw4 he4 o1 hy h34 hv4 hob4 hlt3 hbo hs3 hs4 hm hsh hpt hyl hyf hwS HV HOB HE3 HCP
          cases hc : couldB V.p x.l
          · have hq : Hid (loadE (lks xs) = 112) := by
              have h1 : putsP PV.new (lks xs) = none := by
                rw [← List.take_append_drop (k + 1) (lks xs), HTK.out, putsP_app, putsP_app, HPP.out]
                simp [putsP, hc]
              rw [Hid, loadE, if_neg HL1.out, if_neg (by have := hneg.out; omega), h1]; rfl
            go_wp2_with (fail)
            (with_reducible refine HPT.out.mono ?_)
            intro e w5 hpost
            unfold RetPutB at hpost
            rw [HYL.out, hc] at hpost
            simp only [Bool.false_eq_true, if_false] at hpost
            obtain ⟨rfl, he5⟩ := hpost
            have HX5 := Lib.hid (HE4.out.trans he5)
            clear he5
            go_wp2_with (fail)
            go_ret2
            exact RetLoad.bad hq.out (by decide) HX5.out
          · go_wp2_with (fail)
            (with_reducible refine HPT.out.mono ?_)
            intro e w5 hpost
            obtain ⟨rfl, hI⟩ := load_step HPP.out HWS.out HE4.out HFF.out HAA.out HYF.out (by rw [HYL.out]; exact hc) hpost
            rw [HYL.out, HVB.out, ← HTK.out] at hI
            have HI2 := Lib.hid hI
            clear hI hpost
            go_wp2_with (fail)
            go_roundw
            case rel => exact ⟨k + 1, by omega, by go_num, HI2⟩
            case measure => simp [intOf]; omega
        · obtain rfl : k = n := by omega
          obtain ⟨V, hvb, hpp, hv, hF, hA, he⟩ := hi.out
          rw [List.take_of_length_le (by rw [lks_len, HN.out]; exact Nat.le_refl _)] at hpp
          have hle : loadE (lks xs) = 0 := by
            unfold loadE; rw [if_neg HL1.out, if_neg (by have := hneg.out; omega), hpp]; rfl
          have hls : loadS (lks xs) = V.p := by unfold loadS; rw [hpp]; rfl
          have hr : RetLoad (lks xs) w (.returned (.tuple #[ptr b, .int .i64 0])) wr := by
            unfold RetLoad; rw [if_pos hle]
            exact ⟨b, foot V, _, rfl, ⟨V, hvb, hls.symm, hv, rfl, rfl⟩, he, hF, hA⟩
          have HR := Lib.hid hr
          clear hvb hpp hv hF hA he hle hls hr hi
          go_wp2_with (fail)
          go_ret2
          exact HR.out
    · have hq : Hid (loadE (lks xs) = 112) := by
        simp at T2
        rw [Hid, loadE, if_neg HL1.out, if_pos (by rw [← HCE.out]; exact T2)]
      go_wp2_with (fail)
      go_ret2
      exact RetLoad.bad hq.out (by decide) he1
  · have hq : Hid (loadE (lks xs) = 5) := by
      simp at T1
      rw [Hid, loadE, if_pos (by rw [HL.out, ← HN.out]; omega)]
    go_enter Try.func34, Try.ntmps34
    go_wp2_with (fail)
    go_ret2
    exact RetLoad.bad hq.out (by decide) (Ext.refl _)
end Go.Proofs.Ytlahejakcgoheaa
end
section
/-
  The methods of a vault that was made since a world w0.
-/
set_option linter.unusedVariables false
set_option linter.unusedSimpArgs false
namespace Go.Proofs.Ytlahejakcgoheaa
open Go.RowKit
/-- A vault in block b that was made since w0; all that was there stands. -/
def FreshV (w0 w : World) (b : Nat) (S : PV) : Prop := ∃ F A, VaultAt w b S F A ∧ Ext w0 w ∧ (∀ k ∈ F, w0.heap.size ≤ k) ∧ ∀ k ∈ A, w0.heap.size ≤ k
theorem FreshV.old {w0 w : World} {b : Nat} {S : PV} (h : FreshV w0 w b S) : Ext w0 w := by obtain ⟨F, A, -, e, -⟩ := h; exact e
theorem FreshV.ext {w0 w w' : World} {b : Nat} {S : PV} (h : FreshV w0 w b S) (e : Ext w w') : FreshV w0 w' b S := by
  obtain ⟨F, A, h1, h2, h3, h4⟩ := h
  exact ⟨F, A, h1.ext e, h2.trans e, h3, h4⟩
theorem FreshV.base {w00 w0 w : World} {b : Nat} {S : PV} (h : FreshV w0 w b S) (e : Ext w00 w0) : FreshV w00 w b S := by
  obtain ⟨F, A, h1, h2, h3, h4⟩ := h
  exact ⟨F, A, h1, e.trans h2, fun k q => Nat.le_trans e.size (h3 k q), fun k q => Nat.le_trans e.size (h4 k q)⟩
/-- What a call that may turn the vault leaves. -/
def RetF (w0 : World) (b : Nat) (S' : PV) (v : Value) (e : Ending) (w' : World) : Prop := e = .returned v ∧ FreshV w0 w' b S'
theorem RetStep.fresh {w0 w w' : World} {b : Nat} {S' : PV} {F A : List Nat} {v : Value} {e : Ending} (h : RetStep b S' F A v w e w') (e0 : Ext w0 w) (hF : ∀ k ∈ F, w0.heap.size ≤ k) (hA : ∀ k ∈ A, w0.heap.size ≤ k) : RetF w0 b S' v e w' := by
  obtain ⟨he, F', A', h1, h2, h3, h4⟩ := h
  have hs := e0.size
  refine ⟨he, F', A', h1, h2.fresh e0 hF, fun k q => ?_, fun k q => ?_⟩
  · rcases h3 k q with q | q
    · exact hF k q
    · omega
  · rcases h4 k q with q | q
    · exact hA k q
    · omega
theorem chained_ch (S : PV) (l : Lk) : (chained S l).ch = chainN (lastN S.chain) (chained S l) := rfl
theorem Good.enrol {S : PV} (h : Good S) (n p : ByteArray) : Good (enrolS S n p) := by
  unfold enrolS
  by_cases q : enrolE S n p = 0
  · rw [if_pos q]; exact Good.put h (enrol_could q) (chained_ch _ _)
  · rw [if_neg q]; exact h
theorem Good.adv {S : PV} (h : Good S) (d : Int) : Good (advS S d) := by
  unfold advS
  by_cases q : advE S d = 0
  · rw [if_pos q]; exact Good.put h (adv_could q) (chained_ch _ _)
  · rw [if_neg q]; exact h
theorem Good.seal {S : PV} (h : Good S) (n p k : ByteArray) (un : Int) (t : ByteArray) : Good (sealS S n p k un t) := by
  unfold sealS
  by_cases q : sealE S n p k un t = 0
  · rw [if_pos q]; exact Good.put h (seal_could q) (chained_ch _ _)
  · rw [if_neg q]; exact h
theorem Good.rev {S : PV} (h : Good S) (n p : ByteArray) (num : Int) (t : ByteArray) : Good (revS S n p num t) := by
  unfold revS
  by_cases q : revE S n p num t = 0
  · rw [if_pos q]; exact Good.put h (rev_could q) (chained_ch _ _)
  · rw [if_neg q]; exact h
theorem Good.rel {S : PV} (h : Good S) (n p : ByteArray) (num : Int) (tu sh : ByteArray) : Good (relS S n p num tu sh) := by
  unfold relS
  by_cases q : relE S n p num tu sh = 0
  · rw [if_pos q]; exact Good.put h (rel_could q) (chained_ch _ _)
  · rw [if_neg q]; exact h
theorem enrol_f {w0 w : World} {b : Nat} {S : PV} (h : FreshV w0 w b S) (hg : Good S) (n p : ByteArray) (hn : n.size ≤ maxLen) (hp : p.size ≤ maxLen) :
    Calls Try.prog 37 #[ptr b, .string n, .string p] w (RetF w0 b (enrolS S n p) (.int .i64 (enrolE S n p))) := by
  obtain ⟨F, A, ⟨V, rfl, rfl, hv, rfl, rfl⟩, h2, h3, h4⟩ := h
  exact (enrol_vw V w hv hg n p hn hp).mono fun e w' hr => hr.fresh h2 h3 h4
theorem adv_f {w0 w : World} {b : Nat} {S : PV} (h : FreshV w0 w b S) (hg : Good S) (d : Int) (h0 : -9223372036854775808 ≤ d) (h1 : d ≤ 9223372036854775807) :
    Calls Try.prog 43 #[ptr b, .int .i64 d] w (RetF w0 b (advS S d) (.int .i64 (advE S d))) := by
  obtain ⟨F, A, ⟨V, rfl, rfl, hv, rfl, rfl⟩, h2, h3, h4⟩ := h
  exact (adv_vw V w hv hg d h0 h1).mono fun e w' hr => hr.fresh h2 h3 h4
theorem seal_f {w0 w : World} {b : Nat} {S : PV} (h : FreshV w0 w b S) (hg : Good S) (n p k t : ByteArray) (un : Int) (hn : n.size ≤ maxLen) (hp : p.size ≤ maxLen) (hk : k.size ≤ maxLen) (ht : t.size ≤ maxLen) (h0 : -9223372036854775808 ≤ un) (h1 : un ≤ 9223372036854775807) :
    Calls Try.prog 38 #[ptr b, .string n, .string p, .string k, .int .i64 un, .string t] w (RetF w0 b (sealS S n p k un t) (sealR S n p k un t)) := by
  obtain ⟨F, A, ⟨V, rfl, rfl, hv, rfl, rfl⟩, h2, h3, h4⟩ := h
  exact (seal_vw V w hv hg n p k t un hn hp hk ht h0 h1).mono fun e w' hr => hr.fresh h2 h3 h4
theorem rev_f {w0 w : World} {b : Nat} {S : PV} (h : FreshV w0 w b S) (hg : Good S) (n p : ByteArray) (num : Int) (t : ByteArray) (hn : n.size ≤ maxLen) (hp : p.size ≤ maxLen) (ht : t.size ≤ maxLen) (h0 : -9223372036854775808 ≤ num) (h1 : num ≤ 9223372036854775807) :
    Calls Try.prog 40 #[ptr b, .string n, .string p, .int .i64 num, .string t] w (RetF w0 b (revS S n p num t) (revR S n p num t)) := by
  obtain ⟨F, A, ⟨V, rfl, rfl, hv, rfl, rfl⟩, h2, h3, h4⟩ := h
  exact (rev_vw V w hv hg n p num t hn hp ht h0 h1).mono fun e w' hr => hr.fresh h2 h3 h4
theorem rel_f {w0 w : World} {b : Nat} {S : PV} (h : FreshV w0 w b S) (hg : Good S) (n p : ByteArray) (num : Int) (tu sh : ByteArray) (hn : n.size ≤ maxLen) (hp : p.size ≤ maxLen) (hto : tu.size ≤ maxLen) (hsh : sh.size ≤ maxLen) (h0 : -9223372036854775808 ≤ num) (h1 : num ≤ 9223372036854775807) :
    Calls Try.prog 39 #[ptr b, .string n, .string p, .int .i64 num, .string tu, .string sh] w (RetF w0 b (relS S n p num tu sh) (.int .i64 (relE S n p num tu sh))) := by
  obtain ⟨F, A, ⟨V, rfl, rfl, hv, rfl, rfl⟩, h2, h3, h4⟩ := h
  exact (rel_vw V w hv hg n p num tu sh hn hp hto hsh h0 h1).mono fun e w' hr => hr.fresh h2 h3 h4
theorem open_f {w0 w : World} {b : Nat} {S : PV} (h : FreshV w0 w b S) (hg : Good S) (n p : ByteArray) (num ver : Int) (hn : n.size ≤ maxLen) (hp : p.size ≤ maxLen) (h0 : -9223372036854775808 ≤ num) (h1 : num ≤ 9223372036854775807) (k0 : -9223372036854775808 ≤ ver) (k1 : ver ≤ 9223372036854775807) :
    Calls Try.prog 36 #[ptr b, .string n, .string p, .int .i64 num, .int .i64 ver] w (Ret (OpenV S n p num ver) w) := by
  obtain ⟨F, A, ⟨V, rfl, rfl, hv, rfl, rfl⟩, h2, h3, h4⟩ := h
  exact Open_any V w hv hg n p num ver hn hp h0 h1 k0 k1
theorem bor_f {w0 w : World} {b : Nat} {S : PV} (h : FreshV w0 w b S) (hg : Good S) (n p fr : ByteArray) (num : Int) (sh : ByteArray) (hn : n.size ≤ maxLen) (hp : p.size ≤ maxLen) (hfr : fr.size ≤ maxLen) (hsh : sh.size ≤ maxLen) (h0 : -9223372036854775808 ≤ num) (h1 : num ≤ 9223372036854775807) :
    Calls Try.prog 41 #[ptr b, .string n, .string p, .string fr, .int .i64 num, .string sh] w (Ret (borV S n p fr num sh) w) := by
  obtain ⟨F, A, ⟨V, rfl, rfl, hv, rfl, rfl⟩, h2, h3, h4⟩ := h
  exact bor_any V w hv hg n p fr num sh hn hp hfr hsh h0 h1
theorem list_f {w0 w : World} {b : Nat} {S : PV} (h : FreshV w0 w b S) (hg : Good S) (n p : ByteArray) (hn : n.size ≤ maxLen) (hp : p.size ≤ maxLen) : Calls Try.prog 42 #[ptr b, .string n, .string p] w (RetList S n p w) := by
  obtain ⟨F, A, ⟨V, rfl, rfl, hv, rfl, rfl⟩, h2, h3, h4⟩ := h
  exact list_any V w hv hg n p hn hp
theorem day_f {w0 w : World} {b : Nat} {S : PV} (h : FreshV w0 w b S) : Calls Try.prog 26 #[ptr b] w (Ret (.int .i64 S.day) w) := by
  obtain ⟨F, A, ⟨V, rfl, rfl, hv, rfl, rfl⟩, h2, h3, h4⟩ := h
  exact day_any V V.chain w hv
theorem dump_f {w0 w : World} {b : Nat} {S : PV} (h : FreshV w0 w b S) (hg : Good S) : Calls Try.prog 27 #[ptr b] w (RetDump S.chain w) := by
  obtain ⟨F, A, ⟨V, rfl, rfl, hv, rfl, rfl⟩, h2, h3, h4⟩ := h
  have hs := hg.inv.short
  have hl : V.p.chain.length = V.chain.length := by simp [Vw.p]
  exact dump_any V w hv (by omega)
theorem new_f (w : World) : Calls Try.prog 21 #[] w (fun e w' => ∃ b, e = .returned (ptr b) ∧ FreshV w w' b PV.new) :=
  (new_any w).mono fun e w' ⟨b, F, h1, h2, h3, h4⟩ => ⟨b, h1, F, [], h2, h3, h4, by simp⟩
/-- A link's bounds in a good vault. -/
theorem VwAt.oks {w : World} {V : Vw} (h : VwAt w V V.chain) : ∀ l ∈ V.p.chain, LkOk l := by
  intro l hl
  obtain ⟨y, hy, rfl⟩ := List.mem_map.1 hl
  exact (h.links y hy).2.1
theorem FreshV.oks {w0 w : World} {b : Nat} {S : PV} (h : FreshV w0 w b S) : ∀ l ∈ S.chain, LkOk l := by
  obtain ⟨F, A, ⟨V, rfl, rfl, hv, rfl, rfl⟩, -⟩ := h
  exact hv.oks
/-- The caller's own links, as links. -/
theorem OwnLs.links {w : World} {B : Nat} {a : Option Addr} {c : Nat} {xs : List Lv} (h : OwnLs w B a c xs) : Links w a xs := by
  refine ⟨?_, fun i hi => ?_⟩
  · cases xs with
    | nil => exact .inl rfl
    | cons x0 xs0 =>
      obtain ⟨g, ha, -, -, -⟩ := OwnF.cell lcl_len h.row 0 (by simp)
      refine .inr ⟨g, 0, ha, fun i hi => ?_⟩
      obtain ⟨g', ha', -, -, hc⟩ := OwnF.cell lcl_len h.row i hi
      rw [ha] at ha'
      simp only [Option.some.injEq, Addr.mk.injEq, and_true] at ha'
      subst ha'
      rw [lth_eq _ _ hi, Nat.zero_add]
      exact ⟨hc 0 (by omega), hc 1 (by omega), hc 2 (by omega), hc 3 (by omega), hc 4 (by omega), hc 5 (by omega), hc 6 (by omega), hc 7 (by omega), hc 8 (by omega), hc 9 (by omega)⟩
  · rw [lth_eq _ _ hi]
    exact (h.bod _ (List.getElem_mem hi)).byts.1
theorem LksOk.of {xs : List Lv} {ls : List Lk} (e : lks xs = ls) (h : ∀ l ∈ ls, LkOk l) : LksOk xs := fun i hi => by
  rw [lth_eq _ _ hi]
  exact h _ (by rw [← e]; exact List.mem_map.2 ⟨_, List.getElem_mem hi, rfl⟩)
theorem load_f {w : World} {a : Option Addr} {c : Nat} {xs : List Lv} (h : Links w a xs) (ho : LksOk xs) (hl : xs.length ≤ 1000000) :
    Calls Try.prog 34 #[.slice a xs.length c] w (fun e w' => if loadE (lks xs) = 0 then ∃ b, e = .returned (.tuple #[ptr b, .int .i64 0]) ∧ FreshV w w' b (loadS (lks xs)) else e = .returned (.tuple #[.pointer none, .int .i64 (loadE (lks xs))]) ∧ Ext w w') :=
  (load_any a xs c w h ho (by omega)).mono fun e w' hr => by
    unfold RetLoad at hr
    by_cases q : loadE (lks xs) = 0
    · rw [if_pos q] at hr ⊢
      obtain ⟨b, F, A, h1, h2, h3, h4, h5⟩ := hr
      exact ⟨b, h1, F, A, h2, h3, h4, h5⟩
    · rw [if_neg q] at hr ⊢; exact hr
end Go.Proofs.Ytlahejakcgoheaa
end
section
/-
  The document's examples, reckoned.
-/
set_option linter.unusedVariables false
set_option linter.unusedSimpArgs false
namespace Go.Proofs.Ytlahejakcgoheaa
open Go.RowKit
abbrev bAda : ByteArray := ⟨#[97, 100, 97]⟩
abbrev bBob : ByteArray := ⟨#[98, 111, 98]⟩
abbrev bX : ByteArray := ⟨#[120]⟩
abbrev bY : ByteArray := ⟨#[121]⟩
abbrev bZ : ByteArray := ⟨#[122]⟩
abbrev bPolar : ByteArray := ⟨#[112, 111, 108, 97, 114]⟩
abbrev bCl : ByteArray := ⟨#[99, 108, 32, 48, 46, 53]⟩
abbrev bNo : ByteArray := ⟨#[]⟩
def kS1 : PV := enrolS PV.new bAda bX
def kS2 : PV := enrolS kS1 bBob bY
def kS3 : PV := enrolS kS2 bAda bZ
def kS4 : PV := sealS kS3 bAda bX bPolar 9 bCl
def kS5 : PV := sealS kS4 bBob bY bPolar 9 bNo
def kS6 : PV := advS kS5 10
theorem k_dig1 : hbs (nh 5) [] = 5 := by decide +kernel
theorem k_dig2 : hbs (nh 5) [0, 1] = 330504 := by decide +kernel
theorem k_dig3 : hbs (nh 2305843009213693952) [] = 1 := by decide +kernel
theorem k_e1 : enrolE PV.new bAda bX = 0 := by decide +kernel
theorem k_e2 : enrolE kS1 bBob bY = 0 := by decide +kernel
theorem k_e3 : enrolE kS2 bAda bZ = 6 := by decide +kernel
theorem k_s4 : sealE kS3 bAda bX bPolar 9 bCl = 0 ∧ recsN kS3 bAda = 0 := by decide +kernel
theorem k_s5 : sealE kS4 bBob bY bPolar 9 bNo = 0 ∧ recsN kS4 bBob = 0 := by decide +kernel
theorem k_o1 : openR kS5 bAda bX 1 0 = (bCl, 1, 0) := by decide +kernel
theorem k_o2 : (openR kS5 bAda bY 1 0).2.2 = 110 := by decide +kernel
theorem k_ch : kS5.chain.length = 4 ∧ (kS5.chain.getD 0 Lk.nil).op = 1 ∧ (kS5.chain.getD 0 Lk.nil).cu = bAda ∧ (kS5.chain.getD 2 Lk.nil).bo.length = 32 := by decide +kernel
theorem k_ck : checkI 7 0 kS5.chain = -1 := by decide +kernel
theorem k_ld : loadE kS5.chain = 0 := by decide +kernel
theorem k_o3 : openR (loadS kS5.chain) bAda bX 1 1 = (bCl, 1, 0) := by decide +kernel
theorem k_ad : advE kS5 10 = 0 ∧ kS6.day = 10 := by decide +kernel
end Go.Proofs.Ytlahejakcgoheaa
end
section
/-
  Walk: known.
-/
set_option linter.unusedVariables false
set_option linter.unusedSimpArgs false
namespace Go.Proofs.Ytlahejakcgoheaa
open Go.RowKit
theorem k_good : Good kS1 ∧ Good kS2 ∧ Good kS3 ∧ Good kS4 ∧ Good kS5 ∧ Good kS6 :=
  have g1 : Good kS1 := Good.new.enrol _ _
  have g2 : Good kS2 := g1.enrol _ _
  have g3 : Good kS3 := g2.enrol _ _
  have g4 : Good kS4 := g3.seal _ _ _ _ _
  have g5 : Good kS5 := g4.seal _ _ _ _ _
  ⟨g1, g2, g3, g4, g5, g5.adv _⟩
theorem small {n : Nat} (h : n ≤ 100) : n ≤ maxLen := by unfold maxLen; omega
set_option maxRecDepth 100000 in
set_option maxHeartbeats 8000000 in
theorem known_any (w : World) : Calls Try.prog 12 #[] w (Ret (.bool true) w) := by
  obtain ⟨g1, g2, g3, g4, g5, g6⟩ := k_good
  have hd1 : ∀ W, Calls Try.prog 14 #[.int .u64 5, .slice none 0 0] W (Ret (.int .u64 5) W) := fun W => by
    have := digest_any 5 none [] 0 W (.inl rfl) (by simp)
    rw [k_dig1] at this; exact this
  have hd3 : ∀ W, Calls Try.prog 14 #[.int .u64 2305843009213693952, .slice none 0 0] W (Ret (.int .u64 1) W) := fun W => by
    have := digest_any 2305843009213693952 none [] 0 W (.inl rfl) (by simp)
    rw [k_dig3] at this; exact this
  have hc1 : ∀ W, Calls Try.prog 29 #[.slice none 0 0] W (Ret (.int .i64 (-1)) W) := fun W => check_any none [] 0 W ⟨.inl rfl, by simp⟩ (fun i hi => by simp at hi) (by simp)
  have HD1 := Lib.hid hd1; have HD3 := Lib.hid hd3; have HC1 := Lib.hid hc1
  clear hd1 hd3 hc1
  go_enter Try.func12, Try.ntmps12
  go_wp2_with (fail)
  (with_reducible refine (HD1.out _).mono ?_); rintro e w1 ⟨rfl, he1⟩
  go_wp2_with (fail)
  generalize hw2 : World.alloc _ _ = w2
  obtain ⟨he2, o1, -⟩ := alloc1 hw2
  have hd2 : Calls Try.prog 14 #[.int .u64 5, .slice (some ⟨w1.heap.size, 0, none⟩) 2 2] w2 (Ret (.int .u64 330504) w2) := by
    obtain ⟨c0, c1⟩ := obj_cells2 o1
    have := digest_any 5 (some ⟨w1.heap.size, 0, none⟩) [0, 1] 2 w2 (.inr ⟨w1.heap.size, 0, rfl, fun i hi => by
      have : i = 0 ∨ i = 1 := by simp at hi; omega
      rcases this with rfl | rfl
      · exact c0 w2 (Ext.refl _)
      · exact c1 w2 (Ext.refl _)⟩) (by simp)
    rw [k_dig2] at this; exact this
  have he12 := he1.trans he2
  have HD2 := Lib.hid hd2
  clear hw2 o1 hd2
  (with_reducible refine HD2.out.mono ?_); rintro e w3 ⟨rfl, he3⟩
  go_wp2_with (fail)
  (with_reducible refine (HD3.out _).mono ?_); rintro e w4 ⟨rfl, he4⟩
  go_wp2_with (fail)
  (with_reducible refine (HC1.out _).mono ?_); rintro e w5 ⟨rfl, he5⟩
  have he := ((he12.trans he3).trans he4).trans he5
  clear he12 he1 he2 he3 he4 he5 HD1 HD2 HD3 HC1
  go_wp2_with (fail)
  (with_reducible refine (new_f w5).mono ?_); rintro e w6 ⟨b, rfl, hv⟩
  have hv := hv.base he
  clear he
  have h1 := enrol_f hv Good.new bAda bX (small (by decide)) (small (by decide))
  rw [k_e1] at h1
  have H1 := Lib.hid h1
  clear h1 hv
  go_wp2_with (fail)
  (with_reducible refine H1.out.mono ?_); rintro e w7 ⟨rfl, hv⟩
  have h1 := enrol_f hv g1 bBob bY (small (by decide)) (small (by decide))
  rw [show enrolS PV.new bAda bX = kS1 from rfl, k_e2] at h1
  have H1 := Lib.hid h1
  clear h1 hv
  go_wp2_with (fail)
  (with_reducible refine H1.out.mono ?_); rintro e w8 ⟨rfl, hv⟩
  have h1 := enrol_f hv g2 bAda bZ (small (by decide)) (small (by decide))
  rw [show enrolS kS1 bBob bY = kS2 from rfl, k_e3] at h1
  have H1 := Lib.hid h1
  clear h1 hv
  go_wp2_with (fail)
  (with_reducible refine H1.out.mono ?_); rintro e w9 ⟨rfl, hv⟩
  have h1 := seal_f hv g3 bAda bX bPolar bCl 9 (small (by decide)) (small (by decide)) (small (by decide)) (small (by decide)) (by omega) (by omega)
  rw [show enrolS kS2 bAda bZ = kS3 from rfl, sealR, k_s4.1, k_s4.2] at h1
  simp only [if_true, show ((0 : Nat) : Int) + 1 = 1 from rfl] at h1
  have H1 := Lib.hid h1
  clear h1 hv
  go_wp2_with (fail)
  (with_reducible refine H1.out.mono ?_); rintro e w10 ⟨rfl, hv⟩
  have h1 := seal_f hv g4 bBob bY bPolar bNo 9 (small (by decide)) (small (by decide)) (small (by decide)) (small (by decide)) (by omega) (by omega)
  rw [show sealS kS3 bAda bX bPolar 9 bCl = kS4 from rfl, sealR, k_s5.1, k_s5.2] at h1
  simp only [if_true, show ((0 : Nat) : Int) + 1 = 1 from rfl] at h1
  have H1 := Lib.hid h1
  clear h1 hv
  go_wp2_with (fail)
  (with_reducible refine H1.out.mono ?_); rintro e w11 ⟨rfl, hv⟩
  rw [show sealS kS4 bBob bY bPolar 9 bNo = kS5 from rfl] at hv
  have h1 := open_f hv g5 bAda bX 1 0 (small (by decide)) (small (by decide)) (by omega) (by omega) (by omega) (by omega)
  rw [OpenV, k_o1] at h1
  have H1 := Lib.hid h1; have HV := Lib.hid hv
  clear h1 hv
  go_wp2_with (fail)
  (with_reducible refine H1.out.mono ?_); rintro e w12 ⟨rfl, he⟩
  have hv := HV.out.ext he
  clear HV he
  obtain ⟨tx, htx⟩ : ∃ tx, tx = (openR kS5 bAda bY 1 0).1 := ⟨_, rfl⟩
  have h1 := open_f hv g5 bAda bY 1 0 (small (by decide)) (small (by decide)) (by omega) (by omega) (by omega) (by omega)
  rw [OpenV, k_o2, ← htx] at h1
  have H1 := Lib.hid h1; have HV := Lib.hid hv
  clear h1 hv htx
  go_wp2_with (fail)
  (with_reducible refine H1.out.mono ?_); rintro e w13 ⟨rfl, he⟩
  have hv := HV.out.ext he
  have h1 := dump_f hv g5
  have H1 := Lib.hid h1; have HV := Lib.hid hv
  clear h1 hv he
  go_wp2_with (fail)
  (with_reducible refine H1.out.mono ?_); rintro e w14 ⟨a, c, xs, rfl, he, hxs, hown⟩
  have hl4 : xs.length = 4 := by rw [← lks_len, hxs]; exact k_ch.1
  have hv := HV.out.ext he
  have hok : LksOk xs := LksOk.of hxs hv.oks
  have hlk := hown.links
  have hck : Calls Try.prog 29 #[.slice a 4 c] w14 (Ret (.int .i64 (-1)) w14) := by
    have := check_any a xs c w14 hlk hok (by omega)
    rw [hxs, k_ck, hl4] at this; exact this
  obtain ⟨g, ha, -, -, hc0⟩ := OwnF.cell lcl_len hown.row 0 (by omega)
  obtain ⟨g', ha', -, -, hc2⟩ := OwnF.cell lcl_len hown.row 2 (by omega)
  subst ha
  simp only [Option.some.injEq, Addr.mk.injEq, and_true] at ha'
  subst ha'
  have hx0 : xs[0].l = kS5.chain.getD 0 Lk.nil := by rw [← hxs]; simp [lks, List.getD_eq_getElem?_getD, hl4]
  have hx2 : xs[2].l = kS5.chain.getD 2 Lk.nil := by rw [← hxs]; simp [lks, List.getD_eq_getElem?_getD, hl4]
  have z0 : w14.cell? ⟨g, 0, none⟩ = some (.int .u8 1) := by
    have := hc0 0 (by omega)
    simp only [lcl, lcells, hx0, k_ch.2.1] at this; simpa using this
  have z1 : w14.cell? ⟨g, 1, none⟩ = some (.string bAda) := by
    have := hc0 1 (by omega)
    simp only [lcl, lcells, hx0, k_ch.2.2.1] at this; simpa using this
  obtain ⟨q1, q2, z2⟩ : ∃ q1 q2, w14.cell? ⟨g, 27, none⟩ = some (.slice q1 32 q2) := by
    have := hc2 7 (by omega)
    simp only [lcl, lcells, hx2, k_ch.2.2.2] at this
    exact ⟨_, _, by simpa using this⟩
  have hld := fun W (e : Ext w14 W) => load_f (c := c) (hlk.ext e) hok (by omega)
  rw [hl4] at hld ⊢
  have HV := Lib.hid hv; have HCK := Lib.hid hck; have HLD := Lib.hid hld; have HXS := Lib.hid hxs
  clear hv he hown hok hlk hck hld hc0 hc2 hx0 hx2 H1
  go_wp2_with (fail)
  (with_reducible refine HCK.out.mono ?_); rintro e w15 ⟨rfl, he⟩
  have hv := HV.out.ext he
  have h1 := HLD.out w15 he
  rw [HXS.out] at h1
  simp only [k_ld, if_true] at h1
  have H1 := Lib.hid h1; have HV := Lib.hid hv
  clear h1 hv he z0 z1 z2 HLD
  go_wp2_with (fail)
  (with_reducible refine H1.out.mono ?_); rintro e w16 ⟨b2, rfl, hv2⟩
  have hv := HV.out.ext hv2.old
  have h1 := open_f hv2 (loadS_good k_ld).1 bAda bX 1 1 (small (by decide)) (small (by decide)) (by omega) (by omega) (by omega) (by omega)
  rw [OpenV, k_o3] at h1
  have H1 := Lib.hid h1; have HV := Lib.hid hv
  clear h1 hv hv2
  go_wp2_with (fail)
  (with_reducible refine H1.out.mono ?_); rintro e w17 ⟨rfl, he⟩
  have hv := HV.out.ext he
  have h1 := adv_f hv g5 10 (by omega) (by omega)
  rw [k_ad.1] at h1
  have H1 := Lib.hid h1
  clear h1 hv he
  go_wp2_with (fail)
  (with_reducible refine H1.out.mono ?_); rintro e w18 ⟨rfl, hv⟩
  have h1 := day_f hv
  rw [show (advS kS5 10).day = 10 from k_ad.2] at h1
  have H1 := Lib.hid h1; have HV := Lib.hid hv
  clear h1 hv
  go_wp2_with (fail)
  (with_reducible refine H1.out.mono ?_); rintro e w19 ⟨rfl, he⟩
  go_wp2_with (fail)
  go_ret
  exact ⟨rfl, HV.out.old.trans he⟩
end Go.Proofs.Ytlahejakcgoheaa
end
