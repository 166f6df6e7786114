/-
  Texts merged: Open, Open2.
-/
import Derived.Test.YtjpgignbjkgjiaaB6
import Derived.ProofKit
import Derived.Lib.SmallJoins
import Derived.Deep.Slices
import Derived.Deep.Fields
import Derived.ChangeSame
import Derived.Below
import Derived.Test.YtjpgignbjkgjiaaR20
import Derived.SizedLaws
section
/-
  The arguments of this seat's laws, opened; and a law's row shut: what holds for every law that answers true and leaves all that was there.
  (Two lemmas, 'open_slice_fields' and 'post_of_below', are copied out of the how-to, as it asks.)
-/
set_option linter.unusedVariables false
set_option linter.unusedSimpArgs false
namespace Go.Proofs.Ytjpgignbjkgjiaa
open Go.ChangeShapes Go.WideShapes Go.ChangeAt Go.RowKit Go.Deep Go.WideElems Go.Joins
section
variable {H : Type} {enc : TypeId × Value → H} {P : Program} {w : World} {base : Nat} {spare : Nat → Bool} {held : Bool}
theorem open_slice_fields {t e : TypeId} {fs : Array Field} {fuel : Nat} {cs : List Value} {x : DataW H × List MemPlace} (ht : P.underlying t = some (.slice e)) (he : P.underlying e = some (.struct fs))
    (hone : oneCellFields P fs = true) (hC : P.cellsOf e = fs.size) (h : DataW.trod enc P w base spare held fuel t cs = some x) :
    (cs = [.slice none 0 0] ∧ x = (.nil, [])) ∨
    ∃ (a : Addr) (len cap m : Nat) (D : Nat → DataW H) (Pl : Nat → List MemPlace), cs = [.slice (some a) len cap] ∧ base ≤ a.block ∧ len ≤ cap ∧ cap ≤ maxLen ∧ m = (if spare a.block then cap else len) ∧
      x = (.slice ((List.range len).map D) ((List.range (m - len)).map fun j => D (len + j)), MemPlace.row a (m * fs.size) ++ (List.range m).flatMap Pl) ∧
      ∀ i, i < m → ∃ (ys : List (DataW H × List MemPlace)) (n : Nat), D i = .agg (ys.map (·.1)) ∧ Pl i = ys.flatMap (·.2) ∧ ys.length = fs.size ∧
        ∀ (j : Nat) (f : Field), fs[j]? = some f → ∃ (v : Value) (y : DataW H × List MemPlace), w.cell? (a.add (i * fs.size + j)) = some v ∧ ys[j]? = some y ∧ DataW.trod enc P w base spare held n f.type [v] = some y := by
  rcases open_slice ht h with h0 | ⟨a, len, cap, m, n, D, Pl, hcs, hb, hl, hm, hmm, hx, hi⟩
  · exact .inl h0
  · refine .inr ⟨a, len, cap, m, D, Pl, hcs, hb, hl, hm, hmm, by rw [hC] at hx; exact hx, fun i him => ?_⟩
    obtain ⟨cs', hc, ht'⟩ := hi i him
    rw [hC] at hc
    obtain ⟨ys, n', hn', hy, hlen, hyl, hf⟩ := DataW.trod_struct he ht'
    obtain ⟨_, hcl, hat⟩ := World.cells?_some hc
    simp only [Prod.mk.injEq] at hy
    refine ⟨ys, n', hy.1, hy.2, hyl, fun j f hj => ?_⟩
    obtain ⟨ho, hk⟩ := hone_of hone j f hj
    have hjl : j < fs.size := (Array.getElem?_eq_some_iff.1 hj).1
    have hcell := hat j hjl
    have hv : cs'[j]? = some (cs'[j]'(by omega)) := List.getElem?_eq_getElem (by omega)
    have h1 := hf j f hj
    rw [ho, hk] at h1
    have hone' : (cs'.drop j).take 1 = [cs'[j]'(by omega)] := by
      rw [List.drop_eq_getElem_cons (by omega)]
      rfl
    rw [hone'] at h1
    have hys : ys[j]? = some (ys[j]'(by omega)) := List.getElem?_eq_getElem (by omega)
    refine ⟨_, _, ?_, hys, h1.trans hys⟩
    rw [← Go.Deep.add_add, hcell, hv]
end
section
variable {H : Type} {enc : TypeId × Value → H} {P : Program}
theorem post_of_below {f : Func} {s : ChangeSpec} {apart fresh handsOn again : Bool} {W W' : World} {args : Array Value} {v : Value} {ds gs : List (DataW H)} {before pa pv : List MemPlace}
    (hW : DataW.Whole enc P f.params.toList s.vars apart W args.toList ds gs before)
    (hres : ∀ (b : Nat) (sp : Nat → Bool) (hd : Bool), DataW.TrodAll enc P W' b sp hd f.resultTypes.toList (v.resultList f.resultTypes.size) (s.fn H (ds ++ gs)).results [])
    (hargs : ∀ sp : Nat → Bool, (∀ p ∈ before, sp p.block = true) → DataW.TrodAll enc P W' 0 sp true f.params.toList args.toList (s.fn H (ds ++ gs)).args pa)
    (hvars : ∀ sp : Nat → Bool, (∀ p ∈ before, sp p.block = true) → DataW.TrodVars enc P W' sp s.vars (s.fn H (ds ++ gs)).vars pv)
    (hps : before = pa ++ pv) (hb : Below W.heap.size W W')
    (hok : ∀ (j : Nat) (t : TypeId) (r : Value), f.resultTypes[j]? = some t → (v.resultList f.resultTypes.size)[j]? = some r → Value.okWide P W' .any 0 t r) :
    s.post enc P f apart fresh handsOn again W args v W' := by
  have hlt : ∀ p ∈ before, p.block < W.heap.size := fun p hp => hW.lt p hp
  have hold : ∀ p ∈ before, (fun b => decide (b < W.heap.size)) p.block = true := fun p hp => by simpa using hlt p hp
  refine ⟨ds, gs, before, [], pa, pv, hW, hres _ _ _, hargs _ hold, hvars _ hold, World.keptBut_mono (fun p hp => ⟨hp, ?_⟩) (hb.frame (· ∈ before)), fun _ => ?_⟩
  · rw [hps, List.mem_append] at hp
    exact Or.inr hp
  · obtain ⟨_, _, _, _, _, hz, hn⟩ := hW
    refine ⟨hok, _, _, ([] ++ pa) ++ pv, ⟨[] ++ pa, pv, trodAll_append (hargs _ (fun _ _ => rfl)) (hres _ _ _), hvars _ (fun _ _ => rfl), rfl, ?_, ?_⟩, ?_⟩
    · intro b off hp
      have hin : MemPlace.cell b off ∈ before := by rw [hps]; simpa using hp
      rw [hb.frozen (hlt _ hin)]
      exact hz b off hin
    · intro ha
      have := hn ha
      rw [hps] at this
      simpa using this
    · intro p hp _
      rw [hps]
      simpa using hp
end

section
variable {H : Type} {enc : TypeId × Value → H} {w : World} {spare : Nat → Bool} {held : Bool}
def numOfV : Option Value → Int
  | some (.int _ n) => n
  | _ => 0
theorem spot_none {a : Addr} {v : Value} (h : w.cell? (a.add 0) = some v) : a = ⟨a.block, a.off, none⟩ := by
  obtain ⟨b, o, s⟩ := a
  cases s with
  | none => rfl
  | some s =>
    simp only [Addr.add, if_pos, World.cell?] at h
    split at h <;> simp at h
/-- A field or an argument of type []int. -/
theorem open_list {n : Nat} {v : Value} {y : DataW H × List MemPlace} (h : DataW.trod enc Try.prog w 0 spare held n 22 [v] = some y) : ∃ a xs c, v = .slice a xs.length c ∧ Ints w a xs ∧ xs.length ≤ maxLen := by
  rcases open_ints Try.underlying22 Try.underlying3 (by kernel_rfl) h with ⟨h1, _⟩ | ⟨a, len, cap, zs, h1, _, hl, hm, hz, _, hc, _⟩
  · simp only [List.cons.injEq, and_true] at h1
    exact ⟨none, [], 0, h1, .inl rfl, Nat.zero_le _⟩
  · simp only [List.cons.injEq, and_true] at h1
    have hle : len ≤ zs.length := by rw [hz]; split <;> omega
    have hlen : (zs.take len).length = len := by rw [List.length_take]; omega
    refine ⟨some a, zs.take len, cap, by rw [hlen]; exact h1, ?_, by rw [hlen]; omega⟩
    rcases Nat.eq_zero_or_pos len with h0 | h0
    · exact .inl (List.length_eq_zero_iff.1 (by rw [hlen]; exact h0))
    · have hs := spot_none (hc 0 (by omega))
      refine .inr ⟨a.block, a.off, by rw [← hs], fun i hi => ?_⟩
      rw [hlen] at hi
      have := hc i (by omega)
      rw [hs, Addr.add_lit] at this
      rw [this]
      congr 2
      simp [nth, hi]
set_option maxRecDepth 100000 in
theorem open_hall {b0 : Nat} {v : Value} {d : DataW H} {p : List MemPlace} (hv : Value.okWide Try.prog w .any b0 24 v) (h : DataW.Trod enc Try.prog w 0 spare held 24 v d p) : ∃ ha x, v = hval ha x ∧ HallAt w ha x ∧ ha.st.length ≤ maxLen ∧ ha.en.length ≤ maxLen := by
  obtain ⟨c0, c1, c2, c3, y0, y1, y2, y3, n, rfl, _, _, h0', h1', h2', h3'⟩ := open_agg4 Try.underlying24 (by kernel_rfl) (by kernel_rfl) hv h
  obtain ⟨ro, e0, _, _⟩ := DataW.trod_int Try.underlying3 h0'
  obtain ⟨cl, e1, _, _⟩ := DataW.trod_int Try.underlying3 h1'
  obtain ⟨sa, st, sc, e2, i2, m2⟩ := open_list h2'
  obtain ⟨ea, en, ec, e3, i3, m3⟩ := open_list h3'
  simp only [List.cons.injEq, and_true] at e0 e1
  exact ⟨⟨ro, cl, st, en⟩, ⟨sa, sc, ea, ec⟩, by rw [e0, e1, e2, e3], ⟨i2, i3⟩, m2, m3⟩
set_option maxRecDepth 100000 in
theorem open_camps {v : Value} {d : DataW H} {p : List MemPlace} (h : ∃ n, DataW.trod enc Try.prog w 0 spare held n 25 [v] = some (d, p)) : ∃ a cs c, v = .slice a cs.length c ∧ Camps w a cs ∧ cs.length ≤ maxLen := by
  obtain ⟨n, hf⟩ := h
  rcases open_slice_fields Try.underlying25 Try.underlying45 (by kernel_rfl) (by kernel_rfl) hf with ⟨h1, _⟩ | ⟨a, len, cap, m, D, Pl, h1, _, hl, hm, hmm, _, hi⟩
  · simp only [List.cons.injEq, and_true] at h1
    exact ⟨none, [], 0, h1, .inl rfl, Nat.zero_le _⟩
  · simp only [List.cons.injEq, and_true] at h1
    have hle : len ≤ m := by rw [hmm]; split <;> omega
    have key : ∀ i j, i < len → j < 7 → w.cell? (a.add (i * 7 + j)) = some (.int .i64 (numOfV (w.cell? (a.add (i * 7 + j))))) := by
      intro i j hil hj
      obtain ⟨ys, n', _, _, _, hg⟩ := hi i (by omega)
      obtain ⟨f, hfj, hty⟩ : ∃ f, (match Try.prog.underlying 45 with | some (.struct fs) => fs[j]? | _ => none) = some f ∧ f.type = 3 := by
        rw [Try.underlying45]
        match j, hj with
        | 0, _ => exact ⟨_, rfl, rfl⟩
        | 1, _ => exact ⟨_, rfl, rfl⟩
        | 2, _ => exact ⟨_, rfl, rfl⟩
        | 3, _ => exact ⟨_, rfl, rfl⟩
        | 4, _ => exact ⟨_, rfl, rfl⟩
        | 5, _ => exact ⟨_, rfl, rfl⟩
        | 6, _ => exact ⟨_, rfl, rfl⟩
      rw [Try.underlying45] at hfj
      obtain ⟨u, y, hc, _, ht⟩ := hg j f hfj
      rw [hty] at ht
      obtain ⟨k, e, _, _⟩ := DataW.trod_int Try.underlying3 ht
      simp only [List.cons.injEq, and_true] at e
      have hc' : w.cell? (a.add (i * 7 + j)) = some u := hc
      rw [hc', e]; rfl
    let g : Nat → Nat → Int := fun i j => numOfV (w.cell? (a.add (i * 7 + j)))
    let cs : List Camp := (List.range len).map fun i => ⟨g i 0, g i 1, g i 2, g i 3, g i 4, g i 5, g i 6⟩
    have hlen : cs.length = len := by simp [cs]
    have hcth : ∀ i, i < len → cth cs i = ⟨g i 0, g i 1, g i 2, g i 3, g i 4, g i 5, g i 6⟩ := fun i h => by simp [cth, cs, h]
    refine ⟨some a, cs, cap, by rw [hlen]; exact h1, ?_, by rw [hlen]; omega⟩
    rcases Nat.eq_zero_or_pos len with h0 | h0
    · exact .inl (List.length_eq_zero_iff.1 (by rw [hlen]; exact h0))
    · have hs := spot_none (key 0 0 h0 (by omega))
      refine .inr ⟨a.block, a.off, by rw [← hs], fun i hil => ?_⟩
      rw [hlen] at hil
      have key' : ∀ j, j < 7 → w.cell? ⟨a.block, a.off + i * 7 + j, none⟩ = some (.int .i64 (g i j)) := fun j hj => by
        have := key i j hil hj
        have e : a.add (i * 7 + j) = ⟨a.block, a.off + i * 7 + j, none⟩ := by rw [hs, Addr.add_lit, Nat.add_assoc]
        rw [e] at this
        show _ = some (Value.int .i64 (numOfV (w.cell? (a.add (i * 7 + j)))))
        rw [e]; exact this
      rw [hcth i hil]
      exact ⟨key' 0 (by omega), key' 1 (by omega), key' 2 (by omega), key' 3 (by omega), key' 4 (by omega), key' 5 (by omega), key' 6 (by omega)⟩
end
theorem trodAll_stays {H : Type} {enc : TypeId × Value → H} {P : Program} {W W' : World} {sp' : Nat → Bool} (hl : laidOutB P = true) : ∀ {ts : List TypeId} {vs : List Value} {ds : List (DataW H)} {ps : List MemPlace},
    (ts.all fun t => P.readableRec t && decide (t < P.types.size)) = true → DataW.TrodAll enc P W 0 (fun _ => true) true ts vs ds ps → (∀ p ∈ ps, W.sameAt W' p) → (∀ p ∈ ps, sp' p.block = true) → DataW.TrodAll enc P W' 0 sp' true ts vs ds ps
  | [], [], [], _, _, h, _, _ => h
  | t :: ts, v :: vs, d :: ds, ps, hr, ⟨p, q, h, hs, e⟩, hsame, hsp => by
    simp only [List.all_cons, Bool.and_eq_true, decide_eq_true_eq] at hr
    subst e
    exact ⟨p, q, Trod_stays hl hr.1.1 hr.1.2 h (fun x hx => hsame x (List.mem_append_left _ hx)) (fun x hx => hsp x (List.mem_append_left _ hx)),
      trodAll_stays hl hr.2 hs (fun x hx => hsame x (List.mem_append_right _ hx)) (fun x hx => hsp x (List.mem_append_right _ hx)), rfl⟩
theorem Try.own : ownKnob Try.prog.godebug = none := by kernel_rfl
theorem Try.laidOut : laidOutB Try.prog = true := by kernel_rfl
set_option maxRecDepth 100000 in
/-- A law's row, shut: it answered true, and all that was there stands. -/
theorem law_post {H : Type} {enc : TypeId × Value → H} {f : Func} {s : ChangeSpec} {W W' : World} {args : Array Value} {ds : List (DataW H)} {before : List MemPlace} {e : Ending}
    (hW : DataW.Whole enc Try.prog f.params.toList s.vars false W args.toList ds [] before) (hA : DataW.TrodAll enc Try.prog W 0 (fun _ => true) true f.params.toList args.toList ds before)
    (hr : f.resultTypes = #[4]) (hv : s.vars = []) (hs : (s.fn H (ds ++ [])).results = [.lit (.bool true)]) (hsa : (s.fn H (ds ++ [])).args = ds) (hsv : (s.fn H (ds ++ [])).vars = [])
    (hp : (f.params.toList.all fun t => Try.prog.readableRec t && decide (t < Try.prog.types.size)) = true) (he : Ret (.bool true) W e W') :
    ∃ v, e = .returned v ∧ s.post enc Try.prog f false true false false W args v W' := by
  obtain ⟨he, hx⟩ := he
  have hx' : Below W.heap.size W W' := hx
  refine ⟨_, he, post_of_below (pa := before) (pv := []) hW (fun _ _ _ => ?_) (fun sp hsp => ?_) (fun sp hsp => ?_) (by simp) hx' ?_⟩
  · rw [hr, hs]; exact trodAll_mk1 (shut_bool Try.underlying4 true)
  · rw [hsa]; exact trodAll_stays Try.laidOut hp hA (fun p hp => hx'.same (hA.lt p hp)) hsp
  · rw [hv, hsv]; exact rfl
  · exact ok_one (v := .bool true) (t := 4) hr rfl (okWide_bool_mk Try.underlying4 true)
end Go.Proofs.Ytjpgignbjkgjiaa
end
section
/-
  Plans that are given, opened; their lengths are within reach.
-/
set_option linter.unusedVariables false
set_option linter.unusedSimpArgs false
namespace Go.Proofs.Ytjpgignbjkgjiaa
open Go.ChangeShapes Go.WideShapes Go.ChangeAt Go.RowKit Go.Deep Go.WideElems Go.Joins
theorem weights_in_all {H : Type} {P : Program} {e : TypeId} {d : DataW H} {n : Nat} (hn : n ∈ d.weights P e) : ∀ {l : List (DataW H)}, d ∈ l → n ∈ DataW.weightsAll P e l
  | [], h => by simp at h
  | x :: r, h => by
    simp only [DataW.weightsAll, List.mem_append]
    rw [List.mem_cons] at h
    rcases h with rfl | h
    · exact .inl hn
    · exact .inr (weights_in_all hn h)
theorem bytes3 : Try.prog.bytesOf 3 = 8 := by kernel_rfl
theorem cells22 : Try.prog.cellsOf 22 = 1 := by kernel_rfl
theorem lits_len (k : IntKind) {H : Type} (xs : List Int) : (lits (H := H) k xs).length = xs.length := by simp [lits]
theorem open_list2 {H : Type} {enc : TypeId × Value → H} {w : World} {spare : Nat → Bool} {held : Bool} {n : Nat} {v : Value} {y : DataW H × List MemPlace} (h : DataW.trod enc Try.prog w 0 spare held n 22 [v] = some y) :
    ∃ a xs c, v = .slice a xs.length c ∧ Ints w a xs ∧ ((∀ m ∈ y.1.weights Try.prog 22, m ≤ reachBytes) → xs.length * 8 ≤ 140737488351232) := by
  rcases open_ints Try.underlying22 Try.underlying3 (by kernel_rfl) h with ⟨h1, _⟩ | ⟨a, len, cap, zs, h1, _, hl, hm, hz, hx, hc, _⟩
  · simp only [List.cons.injEq, and_true] at h1
    exact ⟨none, [], 0, h1, .inl rfl, fun _ => by simp⟩
  · simp only [List.cons.injEq, and_true] at h1
    have hle : len ≤ zs.length := by rw [hz]; split <;> omega
    have hlen : (zs.take len).length = len := by rw [List.length_take]; omega
    refine ⟨some a, zs.take len, cap, by rw [hlen]; exact h1, ?_, fun hw => ?_⟩
    · rcases Nat.eq_zero_or_pos len with h0 | h0
      · exact .inl (List.length_eq_zero_iff.1 (by rw [hlen]; exact h0))
      · have hs := spot_none (hc 0 (by omega))
        refine .inr ⟨a.block, a.off, by rw [← hs], fun i hi => ?_⟩
        rw [hlen] at hi
        have := hc i (by omega)
        rw [hs, Addr.add_lit] at this
        rw [this]
        congr 2
        simp [nth, hi]
    · rw [hx] at hw
      have := hw ((lits (H := H) .i64 (zs.take len)).length * 8 + (lits (H := H) .i64 (zs.drop len)).length * 8) (by
        simp only [DataW.weights, Try.underlying22, bytes3]
        rw [← Nat.add_mul]
        exact List.mem_cons_self)
      rw [lits_len, lits_len] at this
      unfold reachBytes at this
      omega
theorem open_plans {H : Type} {enc : TypeId × Value → H} {w : World} {spare : Nat → Bool} {held : Bool} {n : Nat} {v : Value} {y : DataW H × List MemPlace} (h : DataW.trod enc Try.prog w 0 spare held n 62 [v] = some y) (hsz : ∀ m ∈ y.1.weights Try.prog 62, m ≤ reachBytes) :
    ∃ a P c, v = .slice a P.length c ∧ Pls w a P ∧ ∀ i, i < P.length → (lth P i).length * 8 ≤ 140737488351232 := by
  rcases open_slice Try.underlying62 h with ⟨h1, _⟩ | ⟨a, len, cap, m, n', D, Pl, h1, _, hl, hm, hmm, hx, hi⟩
  · simp only [List.cons.injEq, and_true] at h1
    exact ⟨none, [], 0, h1, .inl rfl, fun i hi => by simp at hi⟩
  · simp only [List.cons.injEq, and_true] at h1
    have hle : len ≤ m := by rw [hmm]; split <;> omega
    have key : ∀ i, ∃ t : Option Addr × List Int × Nat, i < len → w.cell? (a.add i) = some (.slice t.1 t.2.1.length t.2.2) ∧ Ints w t.1 t.2.1 ∧ t.2.1.length * 8 ≤ 140737488351232 := fun i => by
      by_cases hil : i < len
      · obtain ⟨cs', hc, ht⟩ := hi i (by omega)
        rw [cells22, Nat.mul_one] at hc
        obtain ⟨_, hcl, hat⟩ := World.cells?_some hc
        obtain ⟨u, rfl⟩ : ∃ u, cs' = [u] := by
          match cs', hcl with
          | [u], _ => exact ⟨u, rfl⟩
        obtain ⟨ia, xs, ic, rfl, hx1, hx2⟩ := open_list2 ht
        have h0 := hat 0 (by omega)
        rw [Go.Deep.add_add] at h0
        refine ⟨(ia, xs, ic), fun _ => ⟨by simpa using h0, hx1, hx2 fun k hk => hsz k ?_⟩⟩
        rw [hx]
        simp only [DataW.weights, Try.underlying62, List.mem_cons, List.mem_append]
        refine .inr (.inl (weights_in_all hk ?_))
        rw [List.mem_map]
        exact ⟨i, by simpa using hil, rfl⟩
      · exact ⟨(none, [], 0), fun e => absurd e hil⟩
    obtain ⟨f, hf⟩ := Classical.axiomOfChoice key
    have hlen : ((List.range len).map fun i => (f i).2.1).length = len := by simp
    have hlth : ∀ i, i < len → lth ((List.range len).map fun i => (f i).2.1) i = (f i).2.1 := fun i h => by simp [lth, h]
    refine ⟨some a, (List.range len).map fun i => (f i).2.1, cap, by rw [hlen]; exact h1, ?_, fun i hil => ?_⟩
    · rcases Nat.eq_zero_or_pos len with h0 | h0
      · exact .inl (List.length_eq_zero_iff.1 (by rw [hlen]; exact h0))
      · have hs := spot_none (hf 0 h0).1
        refine .inr ⟨a.block, a.off, by rw [← hs], fun i hil => ?_⟩
        rw [hlen] at hil
        obtain ⟨q1, q2, q3⟩ := hf i hil
        rw [hs, Addr.add_lit] at q1
        rw [hlth i hil]
        exact ⟨(f i).1, (f i).2.2, q1, q2⟩
    · rw [hlen] at hil
      rw [hlth i hil]
      exact (hf i hil).2.2
end Go.Proofs.Ytjpgignbjkgjiaa
end
