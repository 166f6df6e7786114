/-
  Texts merged: OA, OB.
-/
import Derived.Test.YtplbofhgmflnlaaGreatMA4
import Derived.ProofKit
import Derived.Lib.SmallJoins
import Derived.Deep.Slices
import Derived.Deep.Fields
import Derived.ChangeSame
import Derived.Below
import Derived.SizedLaws
import Derived.SliceStrings
import Derived.Test.YtplbofhgmflnlaaGreatML6
section
/-
  The arguments of this seat's laws, opened; and a law's row shut: what holds for every law that answers true and leaves all that was there.
  (Two lemmas, 'open_slice_fields' and 'post_of_below', are copied out of the how-to, as it asks.)
-/
set_option linter.unusedVariables false
set_option linter.unusedSimpArgs false
namespace Go.Proofs.YtplbofhgmflnlaaGreat
open Go.ChangeShapes Go.WideShapes Go.ChangeAt Go.RowKit Go.Deep Go.WideElems Go.Joins
section
variable {H : Type} {enc : TypeId × Value → H} {P : Program} {w : World} {base : Nat} {spare : Nat → Bool} {held : Bool}
theorem open_slice_fields {t e : TypeId} {fs : Array Field} {fuel : Nat} {cs : List Value} {x : DataW H × List MemPlace} (ht : P.underlying t = some (.slice e)) (he : P.underlying e = some (.struct fs))
    (hone : oneCellFields P fs = true) (hC : P.cellsOf e = fs.size) (h : DataW.trod enc P w base spare held fuel t cs = some x) :
    (cs = [.slice none 0 0] ∧ x = (.nil, [])) ∨
    ∃ (a : Addr) (len cap m : Nat) (D : Nat → DataW H) (Pl : Nat → List MemPlace), cs = [.slice (some a) len cap] ∧ base ≤ a.block ∧ len ≤ cap ∧ cap ≤ maxLen ∧ m = (if spare a.block then cap else len) ∧
      x = (.slice ((List.range len).map D) ((List.range (m - len)).map fun j => D (len + j)), MemPlace.row a (m * fs.size) ++ (List.range m).flatMap Pl) ∧
      ∀ i, i < m → ∃ (ys : List (DataW H × List MemPlace)) (n : Nat), D i = .agg (ys.map (·.1)) ∧ Pl i = ys.flatMap (·.2) ∧ ys.length = fs.size ∧
        ∀ (j : Nat) (f : Field), fs[j]? = some f → ∃ (v : Value) (y : DataW H × List MemPlace), w.cell? (a.add (i * fs.size + j)) = some v ∧ ys[j]? = some y ∧ DataW.trod enc P w base spare held n f.type [v] = some y := by
  rcases open_slice ht h with h0 | ⟨a, len, cap, m, n, D, Pl, hcs, hb, hl, hm, hmm, hx, hi⟩
  · exact .inl h0
  · refine .inr ⟨a, len, cap, m, D, Pl, hcs, hb, hl, hm, hmm, by rw [hC] at hx; exact hx, fun i him => ?_⟩
    obtain ⟨cs', hc, ht'⟩ := hi i him
    rw [hC] at hc
    obtain ⟨ys, n', hn', hy, hlen, hyl, hf⟩ := DataW.trod_struct he ht'
    obtain ⟨_, hcl, hat⟩ := World.cells?_some hc
    simp only [Prod.mk.injEq] at hy
    refine ⟨ys, n', hy.1, hy.2, hyl, fun j f hj => ?_⟩
    obtain ⟨ho, hk⟩ := hone_of hone j f hj
    have hjl : j < fs.size := (Array.getElem?_eq_some_iff.1 hj).1
    have hcell := hat j hjl
    have hv : cs'[j]? = some (cs'[j]'(by omega)) := List.getElem?_eq_getElem (by omega)
    have h1 := hf j f hj
    rw [ho, hk] at h1
    have hone' : (cs'.drop j).take 1 = [cs'[j]'(by omega)] := by
      rw [List.drop_eq_getElem_cons (by omega)]
      rfl
    rw [hone'] at h1
    have hys : ys[j]? = some (ys[j]'(by omega)) := List.getElem?_eq_getElem (by omega)
    refine ⟨_, _, ?_, hys, h1.trans hys⟩
    rw [← Go.Deep.add_add, hcell, hv]
/-- A struct of one-cell fields, by value, opened. -/
theorem open_aggN {r : Reach} {b0 : Nat} {t : TypeId} {fs : Array Field} {v : Value} {d : DataW H} {p : List MemPlace} (hs : P.underlying t = some (.struct fs)) (hone : oneCellFields P fs = true) (hC : P.cellsOf t = fs.size)
    (hv : Value.okWide P w r b0 t v) (h : DataW.Trod enc P w base spare held t v d p) :
    ∃ (cs : Array Value) (n : Nat), v = .agg cs ∧ cs.size = fs.size ∧ ∀ (j : Nat) (f : Field), fs[j]? = some f → ∃ (u : Value) (y : DataW H × List MemPlace), cs[j]? = some u ∧ DataW.trod enc P w base spare held n f.type [u] = some y := by
  obtain ⟨cs, rfl, hsz⟩ := okWide_struct hs hv
  obtain ⟨fuel, hf⟩ := h
  obtain ⟨ys, n, hn, hy, hlen, hyl, hf⟩ := DataW.trod_struct hs hf
  rw [hC] at hsz
  refine ⟨cs, n, rfl, hsz, fun j f hj => ?_⟩
  obtain ⟨ho, hk⟩ := hone_of hone j f hj
  have hjl : j < fs.size := (Array.getElem?_eq_some_iff.1 hj).1
  have h1 := hf j f hj
  have ec : (Value.agg cs).cells = cs := rfl
  rw [ho, hk, ec] at h1
  have hone' : (cs.toList.drop j).take 1 = [cs[j]'(by omega)] := by
    rw [List.drop_eq_getElem_cons (by simp; omega)]
    simp
  rw [hone'] at h1
  have hys : ys[j]? = some (ys[j]'(by omega)) := List.getElem?_eq_getElem (by omega)
  exact ⟨_, _, Array.getElem?_eq_getElem (by omega), h1.trans hys⟩
end
section
variable {H : Type} {enc : TypeId × Value → H} {P : Program}
theorem post_of_below {f : Func} {s : ChangeSpec} {apart fresh handsOn again : Bool} {W W' : World} {args : Array Value} {v : Value} {ds gs : List (DataW H)} {before pa pv : List MemPlace}
    (hW : DataW.Whole enc P f.params.toList s.vars apart W args.toList ds gs before)
    (hres : ∀ (b : Nat) (sp : Nat → Bool) (hd : Bool), DataW.TrodAll enc P W' b sp hd f.resultTypes.toList (v.resultList f.resultTypes.size) (s.fn H (ds ++ gs)).results [])
    (hargs : ∀ sp : Nat → Bool, (∀ p ∈ before, sp p.block = true) → DataW.TrodAll enc P W' 0 sp true f.params.toList args.toList (s.fn H (ds ++ gs)).args pa)
    (hvars : ∀ sp : Nat → Bool, (∀ p ∈ before, sp p.block = true) → DataW.TrodVars enc P W' sp s.vars (s.fn H (ds ++ gs)).vars pv)
    (hps : before = pa ++ pv) (hb : Below W.heap.size W W')
    (hok : ∀ (j : Nat) (t : TypeId) (r : Value), f.resultTypes[j]? = some t → (v.resultList f.resultTypes.size)[j]? = some r → Value.okWide P W' .any 0 t r) :
    s.post enc P f apart fresh handsOn again W args v W' := by
  have hlt : ∀ p ∈ before, p.block < W.heap.size := fun p hp => hW.lt p hp
  have hold : ∀ p ∈ before, (fun b => decide (b < W.heap.size)) p.block = true := fun p hp => by simpa using hlt p hp
  refine ⟨ds, gs, before, [], pa, pv, hW, hres _ _ _, hargs _ hold, hvars _ hold, World.keptBut_mono (fun p hp => ⟨hp, ?_⟩) (hb.frame (· ∈ before)), fun _ => ?_⟩
  · rw [hps, List.mem_append] at hp
    exact Or.inr hp
  · obtain ⟨_, _, _, _, _, hz, hn⟩ := hW
    refine ⟨hok, _, _, ([] ++ pa) ++ pv, ⟨[] ++ pa, pv, trodAll_append (hargs _ (fun _ _ => rfl)) (hres _ _ _), hvars _ (fun _ _ => rfl), rfl, ?_, ?_⟩, ?_⟩
    · intro b off hp
      have hin : MemPlace.cell b off ∈ before := by rw [hps]; simpa using hp
      rw [hb.frozen (hlt _ hin)]
      exact hz b off hin
    · intro ha
      have := hn ha
      rw [hps] at this
      simpa using this
    · intro p hp _
      rw [hps]
      simpa using hp
end
section
variable {H : Type} {enc : TypeId × Value → H} {w : World} {spare : Nat → Bool} {held : Bool}
def numOfV : Option Value → Int
  | some (.int _ n) => n
  | _ => 0
def strOfV : Option Value → ByteArray
  | some (.string s) => s
  | _ => ByteArray.empty
theorem spot_none {a : Addr} {v : Value} (h : w.cell? (a.add 0) = some v) : a = ⟨a.block, a.off, none⟩ := by
  obtain ⟨b, o, s⟩ := a
  cases s with
  | none => rfl
  | some s =>
    simp only [Addr.add, if_pos, World.cell?] at h
    split at h <;> simp at h
theorem open_u {t : TypeId} {k : IntKind} {n : Nat} {v : Value} {y : DataW H × List MemPlace} (ht : Tryz.prog.underlying t = some (.int k)) (h : DataW.trod enc Tryz.prog w 0 spare held n t [v] = some y) : ∃ z, v = .int k z ∧ (Lit.int k z).wf = true := by
  obtain ⟨z, e, _, hw⟩ := DataW.trod_int ht h
  simp only [List.cons.injEq, and_true] at e
  exact ⟨z, e, hw⟩
theorem open_str {t : TypeId} {n : Nat} {v : Value} {y : DataW H × List MemPlace} (ht : Tryz.prog.underlying t = some .string) (h : DataW.trod enc Tryz.prog w 0 spare held n t [v] = some y) : ∃ s, v = .string s ∧ s.size ≤ maxLen := by
  obtain ⟨s, e, _, hw⟩ := DataW.trod_string ht h
  simp only [List.cons.injEq, and_true] at e
  exact ⟨s, e, hw⟩
theorem wf_i64 {z : Int} (h : (Lit.int .i64 z).wf = true) : -9223372036854775808 ≤ z ∧ z ≤ 9223372036854775807 := by
  simp only [Lit.wf, Bool.and_eq_true, decide_eq_true_eq, IntKind.min, IntKind.max, IntKind.signed, IntKind.bits] at h
  simpa using h
theorem wf_u64 {z : Int} (h : (Lit.int .u64 z).wf = true) : ∃ n : Nat, z = (n : Int) ∧ n < 18446744073709551616 := by
  simp only [Lit.wf, Bool.and_eq_true, decide_eq_true_eq, IntKind.min, IntKind.max, IntKind.signed, IntKind.bits] at h
  have h0 : 0 ≤ z := by simpa using h.1
  have h1 : z ≤ 18446744073709551615 := by simpa using h.2
  exact ⟨z.toNat, by omega, by omega⟩
theorem wf_u32 {z : Int} (h : (Lit.int .u32 z).wf = true) : ∃ n : Nat, z = (n : Int) ∧ n < 4294967296 := by
  simp only [Lit.wf, Bool.and_eq_true, decide_eq_true_eq, IntKind.min, IntKind.max, IntKind.signed, IntKind.bits] at h
  have h0 : 0 ≤ z := by simpa using h.1
  have h1 : z ≤ 4294967295 := by simpa using h.2
  exact ⟨z.toNat, by omega, by omega⟩
theorem wf_u16 {z : Int} (h : (Lit.int .u16 z).wf = true) : ∃ n : Nat, z = (n : Int) ∧ n < 65536 := by
  simp only [Lit.wf, Bool.and_eq_true, decide_eq_true_eq, IntKind.min, IntKind.max, IntKind.signed, IntKind.bits] at h
  have h0 : 0 ≤ z := by simpa using h.1
  have h1 : z ≤ 65535 := by simpa using h.2
  exact ⟨z.toNat, by omega, by omega⟩
theorem wf_u8 {z : Int} (h : (Lit.int .u8 z).wf = true) : ∃ n : Nat, z = (n : Int) ∧ n < 256 := by
  simp only [Lit.wf, Bool.and_eq_true, decide_eq_true_eq, IntKind.min, IntKind.max, IntKind.signed, IntKind.bits] at h
  have h0 : 0 ≤ z := by simpa using h.1
  have h1 : z ≤ 255 := by simpa using h.2
  exact ⟨z.toNat, by omega, by omega⟩
/-- A call of a book. -/
structure Op where
  kind : Int
  pt : Int
  rs : ByteArray
abbrev opV (x : Op) : Value := .agg #[.int .i64 x.kind, .int .i64 x.pt, .string x.rs]
set_option maxRecDepth 100000 in
theorem open_op {b0 : Nat} {v : Value} {d : DataW H} {p : List MemPlace} (hv : Value.okWide Tryz.prog w .any b0 105 v) (h : DataW.Trod enc Tryz.prog w 0 spare held 105 v d p) : ∃ x, v = opV x ∧ x.rs.size ≤ maxLen ∧ -9223372036854775808 ≤ x.pt ∧ x.pt ≤ 9223372036854775807 := by
  obtain ⟨cs, n, rfl, hsz, hf⟩ := open_aggN Tryz.underlying105 (by kernel_rfl) (by kernel_rfl) hv h
  obtain ⟨u0, y0, e0, t0⟩ := hf 0 _ rfl
  obtain ⟨u1, y1, e1, t1⟩ := hf 1 _ rfl
  obtain ⟨u2, y2, e2, t2⟩ := hf 2 _ rfl
  obtain ⟨z0, rfl, -⟩ := open_u Tryz.underlying3 t0
  obtain ⟨z1, rfl, w1⟩ := open_u Tryz.underlying3 t1
  obtain ⟨s2, rfl, hs2⟩ := open_str Tryz.underlying9 t2
  refine ⟨⟨z0, z1, s2⟩, ?_, hs2, wf_i64 w1⟩
  congr 1
  have hs3 : cs.size = 3 := hsz
  apply Array.ext
  · rw [hs3]; rfl
  · intro i h1 h2
    rw [hs3] at h1
    match i, h1 with
    | 0, _ => rw [Array.getElem?_eq_getElem (by omega)] at e0; exact Option.some.inj e0
    | 1, _ => rw [Array.getElem?_eq_getElem (by omega)] at e1; exact Option.some.inj e1
    | 2, _ => rw [Array.getElem?_eq_getElem (by omega)] at e2; exact Option.some.inj e2
end
theorem trodAll_stays {H : Type} {enc : TypeId × Value → H} {P : Program} {W W' : World} {sp' : Nat → Bool} (hl : laidOutB P = true) : ∀ {ts : List TypeId} {vs : List Value} {ds : List (DataW H)} {ps : List MemPlace},
    (ts.all fun t => P.readableRec t && decide (t < P.types.size)) = true → DataW.TrodAll enc P W 0 (fun _ => true) true ts vs ds ps → (∀ p ∈ ps, W.sameAt W' p) → (∀ p ∈ ps, sp' p.block = true) → DataW.TrodAll enc P W' 0 sp' true ts vs ds ps
  | [], [], [], _, _, h, _, _ => h
  | t :: ts, v :: vs, d :: ds, ps, hr, ⟨p, q, h, hs, e⟩, hsame, hsp => by
    simp only [List.all_cons, Bool.and_eq_true, decide_eq_true_eq] at hr
    subst e
    exact ⟨p, q, Trod_stays hl hr.1.1 hr.1.2 h (fun x hx => hsame x (List.mem_append_left _ hx)) (fun x hx => hsp x (List.mem_append_left _ hx)),
      trodAll_stays hl hr.2 hs (fun x hx => hsame x (List.mem_append_right _ hx)) (fun x hx => hsp x (List.mem_append_right _ hx)), rfl⟩
theorem Tryz.own : ownKnob Tryz.prog.godebug = none := by kernel_rfl
theorem Tryz.laidOut : laidOutB Tryz.prog = true := by kernel_rfl
set_option maxRecDepth 100000 in
/-- A law's row, shut: it answered true, and all that was there stands. -/
theorem law_post {H : Type} {enc : TypeId × Value → H} {f : Func} {s : ChangeSpec} {W W' : World} {args : Array Value} {ds : List (DataW H)} {before : List MemPlace} {e : Ending}
    (hW : DataW.Whole enc Tryz.prog f.params.toList s.vars false W args.toList ds [] before) (hA : DataW.TrodAll enc Tryz.prog W 0 (fun _ => true) true f.params.toList args.toList ds before)
    (hr : f.resultTypes = #[4]) (hv : s.vars = []) (hs : (s.fn H (ds ++ [])).results = [.lit (.bool true)]) (hsa : (s.fn H (ds ++ [])).args = ds) (hsv : (s.fn H (ds ++ [])).vars = [])
    (hp : (f.params.toList.all fun t => Tryz.prog.readableRec t && decide (t < Tryz.prog.types.size)) = true) (he : Ret (.bool true) W e W') :
    ∃ v, e = .returned v ∧ s.post enc Tryz.prog f false true false false W args v W' := by
  obtain ⟨he, hx⟩ := he
  have hx' : Below W.heap.size W W' := hx
  refine ⟨_, he, post_of_below (pa := before) (pv := []) hW (fun _ _ _ => ?_) (fun sp hsp => ?_) (fun sp hsp => ?_) (by simp) hx' ?_⟩
  · rw [hr, hs]; exact trodAll_mk1 (shut_bool Tryz.underlying4 true)
  · rw [hsa]; exact trodAll_stays Tryz.laidOut hp hA (fun p hp => hx'.same (hA.lt p hp)) hsp
  · rw [hv, hsv]; exact rfl
  · exact ok_one (v := .bool true) (t := 4) hr rfl (okWide_bool_mk Tryz.underlying4 true)
end Go.Proofs.YtplbofhgmflnlaaGreat
end
section
/-
  The arguments of this seat's laws, opened: rows of structs, lists in lists, plans, settings, fractions.
-/
set_option linter.unusedVariables false
set_option linter.unusedSimpArgs false
namespace Go.Proofs.YtplbofhgmflnlaaGreat
open Go.ChangeShapes Go.WideShapes Go.ChangeAt Go.RowKit Go.Deep Go.WideElems Go.Joins
section
variable {H : Type} {enc : TypeId × Value → H} {w : World} {spare : Nat → Bool} {held : Bool}
theorem open_rowF {α : Type} {sz n : Nat} {t e : TypeId} {fs : Array Field} (f : α → List Value) (hf : ∀ x, (f x).length = sz) (h0 : 0 < sz) (x0 : α) (ht : Tryz.prog.underlying t = some (.slice e)) (he : Tryz.prog.underlying e = some (.struct fs))
    (hone : oneCellFields Tryz.prog fs = true) (hC : Tryz.prog.cellsOf e = fs.size) (hsz : fs.size = sz) (Q : α → Prop)
    (rd : ∀ g : Nat → Option Value, (∀ j fd, fs[j]? = some fd → ∃ u n y, g j = some u ∧ DataW.trod enc Tryz.prog w 0 spare held n fd.type [u] = some y) → ∃ x, (∀ j, j < sz → g j = (f x)[j]?) ∧ Q x)
    {v : Value} {y : DataW H × List MemPlace} (h : DataW.trod enc Tryz.prog w 0 spare held n t [v] = some y) :
    ∃ a xs c, v = .slice a (List.length xs) c ∧ RowAt sz f w a xs ∧ (∀ x ∈ xs, Q x) ∧ xs.length ≤ maxLen := by
  subst hsz
  rcases open_slice_fields ht he hone hC h with ⟨h1, _⟩ | ⟨a, len, cap, m, D, Pl, h1, _, hl, hm, hmm, _, hi⟩
  · simp only [List.cons.injEq, and_true] at h1
    exact ⟨none, [], 0, h1, .inl rfl, by simp, Nat.zero_le _⟩
  · simp only [List.cons.injEq, and_true] at h1
    have hle : len ≤ m := by rw [hmm]; split <;> omega
    have key : ∀ i, ∃ x, i < len → (∀ j, j < fs.size → w.cell? (a.add (i * fs.size + j)) = (f x)[j]?) ∧ Q x := fun i => by
      by_cases hil : i < len
      · obtain ⟨ys, n', _, _, _, hg⟩ := hi i (by omega)
        obtain ⟨x, hx⟩ := rd (fun j => w.cell? (a.add (i * fs.size + j))) fun j fd hj => by
          obtain ⟨u, y, hc, _, ht⟩ := hg j fd hj
          exact ⟨u, n', y, hc, ht⟩
        exact ⟨x, fun _ => hx⟩
      · exact ⟨x0, fun e => absurd e hil⟩
    obtain ⟨g, hg⟩ := Classical.axiomOfChoice key
    have hlen : ((List.range len).map g).length = len := by simp
    refine ⟨some a, (List.range len).map g, cap, by rw [hlen]; exact h1, ?_, ?_, by rw [hlen]; omega⟩
    · rcases Nat.eq_zero_or_pos len with h2 | h2
      · exact .inl (List.length_eq_zero_iff.1 (by rw [hlen]; exact h2))
      · have hc0 := (hg 0 h2).1 0 h0
        have hs : a = ⟨a.block, a.off, none⟩ := by
          have : ∃ u, (f (g 0))[0]? = some u := ⟨_, List.getElem?_eq_getElem (by rw [hf]; exact h0)⟩
          obtain ⟨u, hu⟩ := this
          rw [hu, Nat.zero_mul] at hc0
          exact spot_none hc0
        refine .inr ⟨a.block, a.off, by rw [← hs], fun i hi j hj => ?_⟩
        have hil : i < len := by rw [hlen] at hi; exact hi
        have := (hg i hil).1 j hj
        rw [hs, Addr.add_lit] at this
        rw [List.getElem_map, List.getElem_range, ← this, Nat.add_assoc]
    · intro x hx
      obtain ⟨i, hi, rfl⟩ := List.mem_map.1 hx
      exact (hg i (List.mem_range.1 hi)).2
theorem open_row1 {α : Type} {n : Nat} {t e : TypeId} (f : α → List Value) (hf : ∀ x, (f x).length = 1) (x0 : α) (ht : Tryz.prog.underlying t = some (.slice e)) (hC : Tryz.prog.cellsOf e = 1) (Q : α → Prop)
    (rd : ∀ u n y, DataW.trod enc Tryz.prog w 0 spare held n e [u] = some y → ∃ x, f x = [u] ∧ Q x)
    {v : Value} {y : DataW H × List MemPlace} (h : DataW.trod enc Tryz.prog w 0 spare held n t [v] = some y) :
    ∃ a xs c, v = .slice a (List.length xs) c ∧ RowAt 1 f w a xs ∧ (∀ x ∈ xs, Q x) ∧ xs.length ≤ maxLen := by
  rcases open_slice ht h with ⟨h1, _⟩ | ⟨a, len, cap, m, n', D, Pl, h1, _, hl, hm, hmm, hx, hi⟩
  · simp only [List.cons.injEq, and_true] at h1
    exact ⟨none, [], 0, h1, .inl rfl, by simp, Nat.zero_le _⟩
  · simp only [List.cons.injEq, and_true] at h1
    have hle : len ≤ m := by rw [hmm]; split <;> omega
    have key : ∀ i, ∃ x, i < len → (∀ u, w.cell? (a.add i) = some u → f x = [u]) ∧ (∃ u, w.cell? (a.add i) = some u) ∧ Q x := fun i => by
      by_cases hil : i < len
      · obtain ⟨cs', hc, ht'⟩ := hi i (by omega)
        rw [hC, Nat.mul_one] at hc
        obtain ⟨_, hcl, hat⟩ := World.cells?_some hc
        obtain ⟨u, rfl⟩ : ∃ u, cs' = [u] := by
          match cs', hcl with
          | [u], _ => exact ⟨u, rfl⟩
        obtain ⟨x, hx1, hx2⟩ := rd u n' _ ht'
        have h0 := hat 0 (by omega)
        rw [Go.Deep.add_add, Nat.add_zero] at h0
        have h0' : w.cell? (a.add i) = some u := by simpa using h0
        exact ⟨x, fun _ => ⟨fun u' hu' => by rw [h0'] at hu'; cases hu'; exact hx1, ⟨u, h0'⟩, hx2⟩⟩
      · exact ⟨x0, fun e => absurd e hil⟩
    obtain ⟨g, hg⟩ := Classical.axiomOfChoice key
    have hlen : ((List.range len).map g).length = len := by simp
    refine ⟨some a, (List.range len).map g, cap, by rw [hlen]; exact h1, ?_, ?_, by rw [hlen]; omega⟩
    · rcases Nat.eq_zero_or_pos len with h2 | h2
      · exact .inl (List.length_eq_zero_iff.1 (by rw [hlen]; exact h2))
      · have hs : a = ⟨a.block, a.off, none⟩ := by
          obtain ⟨u, hu⟩ := (hg 0 h2).2.1
          exact spot_none hu
        refine .inr ⟨a.block, a.off, by rw [← hs], fun i hi j hj => ?_⟩
        have hil : i < len := by rw [hlen] at hi; exact hi
        obtain rfl : j = 0 := by omega
        obtain ⟨h3, ⟨u, hu⟩, -⟩ := hg i hil
        rw [List.getElem_map, List.getElem_range, h3 u hu, Nat.mul_one, Nat.add_zero]
        rw [hs, Addr.add_lit] at hu
        rw [hu]; rfl
    · intro x hx
      obtain ⟨i, hi, rfl⟩ := List.mem_map.1 hx
      exact (hg i (List.mem_range.1 hi)).2.2
theorem open_ints31 {n : Nat} {v : Value} {y : DataW H × List MemPlace} (h : DataW.trod enc Tryz.prog w 0 spare held n 31 [v] = some y) : ∃ a xs c, v = .slice a (List.length xs) c ∧ Ints w a xs ∧ xs.length ≤ maxLen := by
  rcases open_ints Tryz.underlying31 Tryz.underlying3 (by kernel_rfl) h with ⟨h1, _⟩ | ⟨a, len, cap, zs, h1, _, hl, hm, hz, _, hc, _⟩
  · simp only [List.cons.injEq, and_true] at h1
    exact ⟨none, [], 0, h1, .inl rfl, Nat.zero_le _⟩
  · simp only [List.cons.injEq, and_true] at h1
    have hle : len ≤ zs.length := by rw [hz]; split <;> omega
    have hlen : (zs.take len).length = len := by rw [List.length_take]; omega
    refine ⟨some a, zs.take len, cap, by rw [hlen]; exact h1, ?_, by rw [hlen]; omega⟩
    rcases Nat.eq_zero_or_pos len with h0 | h0
    · exact .inl (List.length_eq_zero_iff.1 (by rw [hlen]; exact h0))
    · have hs := spot_none (hc 0 (by omega))
      refine .inr ⟨a.block, a.off, by rw [← hs], fun i hi => ?_⟩
      rw [hlen] at hi
      have := hc i (by omega)
      rw [hs, Addr.add_lit] at this
      rw [this]
      congr 2
      simp [nth, hi]
theorem open_bool {n : Nat} {v : Value} {y : DataW H × List MemPlace} (h : DataW.trod enc Tryz.prog w 0 spare held n 4 [v] = some y) : ∃ b, v = .bool b := by
  obtain ⟨b, er, -⟩ := DataW.trod_bool Tryz.underlying4 h
  simp only [List.cons.injEq, and_true] at er
  exact ⟨b, er⟩
theorem open_wds {n : Nat} {v : Value} {y : DataW H × List MemPlace} (h : DataW.trod enc Tryz.prog w 0 spare held n 56 [v] = some y) : ∃ a xs c, v = .slice a (List.length xs) c ∧ Wds w a xs ∧ (∀ x ∈ xs, x.mask < 65536) ∧ xs.length ≤ maxLen :=
  open_rowF wdC wdC_len (by omega) ⟨0, false⟩ Tryz.underlying56 Tryz.underlying75 (by kernel_rfl) (by kernel_rfl) rfl (fun x => x.mask < 65536) (fun g hg => by
    obtain ⟨u0, n0, y0, e0, t0⟩ := hg 0 _ rfl
    obtain ⟨u1, n1, y1, e1, t1⟩ := hg 1 _ rfl
    obtain ⟨z, rfl, hw⟩ := open_u Tryz.underlying59 t0
    obtain ⟨b, rfl⟩ := open_bool t1
    obtain ⟨k, rfl, hk⟩ := wf_u16 hw
    refine ⟨⟨k, b⟩, fun j hj => ?_, hk⟩
    match j, hj with
    | 0, _ => exact e0
    | 1, _ => exact e1) h
theorem agg_two {cs : Array Value} {u0 u1 : Value} (hs : cs.size = 2) (e0 : cs[0]? = some u0) (e1 : cs[1]? = some u1) : cs = #[u0, u1] := by
  apply Array.ext
  · rw [hs]; rfl
  · intro i h1 h2
    rw [hs] at h1
    match i, h1 with
    | 0, _ => rw [Array.getElem?_eq_getElem (by omega)] at e0; exact Option.some.inj e0
    | 1, _ => rw [Array.getElem?_eq_getElem (by omega)] at e1; exact Option.some.inj e1
set_option maxRecDepth 100000 in
theorem open_frac {b0 : Nat} {v : Value} {d : DataW H} {p : List MemPlace} (hv : Value.okWide Tryz.prog w .any b0 58 v) (h : DataW.Trod enc Tryz.prog w 0 spare held 58 v d p) : ∃ F, v = frV F ∧ FrAt w F ∧ FrB F := by
  obtain ⟨cs, n, rfl, hsz, hf⟩ := open_aggN Tryz.underlying58 (by kernel_rfl) (by kernel_rfl) hv h
  obtain ⟨u0, y0, e0, t0⟩ := hf 0 _ rfl
  obtain ⟨u1, y1, e1, t1⟩ := hf 1 _ rfl
  obtain ⟨z0, rfl, -⟩ := open_u Tryz.underlying3 t0
  obtain ⟨a, xs, c, rfl, hx, hq, hl⟩ := open_wds t1
  refine ⟨⟨z0, xs, a, c⟩, by rw [agg_two hsz e0 e1], hx, fun i hi => hq _ (by rw [wth_eq _ _ hi]; exact List.getElem_mem hi), ?_⟩
  unfold maxLen at hl
  exact hl
theorem open_pair {n : Nat} {v : Value} {y : DataW H × List MemPlace} (h : DataW.trod enc Tryz.prog w 0 spare held n 125 [v] = some y) : ∃ a xs c, v = .slice a (List.length xs) c ∧ Prs w a xs ∧ xs.length ≤ maxLen := by
  obtain ⟨a, xs, c, h1, h2, -, h3⟩ := open_rowF prC prC_len (by omega) ⟨0, 0⟩ Tryz.underlying125 Tryz.underlying127 (by kernel_rfl) (by kernel_rfl) rfl (fun _ => True) (fun g hg => by
    obtain ⟨u0, n0, y0, e0, t0⟩ := hg 0 _ rfl
    obtain ⟨u1, n1, y1, e1, t1⟩ := hg 1 _ rfl
    obtain ⟨z0, rfl, -⟩ := open_u Tryz.underlying3 t0
    obtain ⟨z1, rfl, -⟩ := open_u Tryz.underlying3 t1
    refine ⟨⟨z0, z1⟩, fun j hj => ?_, trivial⟩
    match j, hj with
    | 0, _ => exact e0
    | 1, _ => exact e1) h
  exact ⟨a, xs, c, h1, h2, h3⟩
theorem open_facs {n : Nat} {v : Value} {y : DataW H × List MemPlace} (h : DataW.trod enc Tryz.prog w 0 spare held n 22 [v] = some y) : ∃ a xs c, v = .slice a (List.length xs) c ∧ Facs w a xs ∧ xs.length ≤ maxLen := by
  obtain ⟨a, xs, c, h1, h2, -, h3⟩ := open_rowF facC facC_len (by omega) ⟨0, 0, false⟩ Tryz.underlying22 Tryz.underlying52 (by kernel_rfl) (by kernel_rfl) rfl (fun _ => True) (fun g hg => by
    obtain ⟨u0, n0, y0, e0, t0⟩ := hg 0 _ rfl
    obtain ⟨u1, n1, y1, e1, t1⟩ := hg 1 _ rfl
    obtain ⟨u2, n2, y2, e2, t2⟩ := hg 2 _ rfl
    obtain ⟨z0, rfl, -⟩ := open_u Tryz.underlying3 t0
    obtain ⟨z1, rfl, -⟩ := open_u Tryz.underlying3 t1
    obtain ⟨b, rfl⟩ := open_bool t2
    refine ⟨⟨z0, z1, b⟩, fun j hj => ?_, trivial⟩
    match j, hj with
    | 0, _ => exact e0
    | 1, _ => exact e1
    | 2, _ => exact e2) h
  exact ⟨a, xs, c, h1, h2, h3⟩
theorem open_grps {n : Nat} {v : Value} {y : DataW H × List MemPlace} (h : DataW.trod enc Tryz.prog w 0 spare held n 23 [v] = some y) : ∃ a xs c, v = .slice a (List.length xs) c ∧ Grps w a xs ∧ (∀ x ∈ xs, Prs w x.a x.xs ∧ x.xs.length ≤ maxLen) ∧ xs.length ≤ maxLen :=
  open_row1 grpC grpC_len ⟨none, [], 0⟩ Tryz.underlying23 (by kernel_rfl) (fun x : Sl Pr => Prs w x.a x.xs ∧ x.xs.length ≤ maxLen) (fun u n y h => by
    obtain ⟨a, xs, c, rfl, h1, h2⟩ := open_pair h
    exact ⟨⟨a, xs, c⟩, rfl, h1, h2⟩) h
set_option maxRecDepth 100000 in
theorem open_plan {b0 : Nat} {v : Value} {d : DataW H} {p : List MemPlace} (hv : Value.okWide Tryz.prog w .any b0 25 v) (h : DataW.Trod enc Tryz.prog w 0 spare held 25 v d p) :
    ∃ P, v = planV P ∧ PlanAt w P ∧ P.fs.length ≤ maxLen ∧ P.fo.length ≤ maxLen ∧ ∀ i, i < P.fo.length → (gth P.fo i).xs.length ≤ maxLen := by
  obtain ⟨cs, n, rfl, hsz, hf⟩ := open_aggN Tryz.underlying25 (by kernel_rfl) (by kernel_rfl) hv h
  obtain ⟨u0, y0, e0, t0⟩ := hf 0 _ rfl
  obtain ⟨u1, y1, e1, t1⟩ := hf 1 _ rfl
  obtain ⟨fa, fs, fc, rfl, hfs, hfl⟩ := open_facs t0
  obtain ⟨ga, fo, gc, rfl, hfo, hq, hgl⟩ := open_grps t1
  refine ⟨⟨fs, fa, fc, fo, ga, gc⟩, by rw [agg_two hsz e0 e1], ⟨hfs, hfo, fun i hi => ?_⟩, hfl, hgl, fun i hi => ?_⟩
  · exact (hq _ (by rw [gth_eq _ _ hi]; exact List.getElem_mem hi)).1
  · exact (hq _ (by rw [gth_eq _ _ hi]; exact List.getElem_mem hi)).2
theorem open_sets {n : Nat} {v : Value} {y : DataW H × List MemPlace} (h : DataW.trod enc Tryz.prog w 0 spare held n 26 [v] = some y) : ∃ a xs c, v = .slice a (List.length xs) c ∧ SetsAt w a xs ∧ (∀ i, i < xs.length → (eth xs i).lv.xs.length ≤ maxLen) ∧ xs.length ≤ maxLen := by
  obtain ⟨a, xs, c, h1, h2, h3, h4⟩ := open_rowF setC setC_len (by omega) ⟨⟨none, [], 0⟩, 0⟩ Tryz.underlying26 Tryz.underlying49 (by kernel_rfl) (by kernel_rfl) rfl (fun s : Se => Ints w s.lv.a s.lv.xs ∧ s.lv.xs.length ≤ maxLen) (fun g hg => by
    obtain ⟨u0, n0, y0, e0, t0⟩ := hg 0 _ rfl
    obtain ⟨u1, n1, y1, e1, t1⟩ := hg 1 _ rfl
    obtain ⟨a, xs, c, rfl, hi, hl⟩ := open_ints31 t0
    obtain ⟨z1, rfl, -⟩ := open_u Tryz.underlying3 t1
    refine ⟨⟨⟨a, xs, c⟩, z1⟩, fun j hj => ?_, hi, hl⟩
    match j, hj with
    | 0, _ => exact e0
    | 1, _ => exact e1) h
  refine ⟨a, xs, c, h1, ⟨h2, fun i hi => ?_⟩, fun i hi => ?_, h4⟩
  · exact (h3 _ (by rw [eth_eq _ _ hi]; exact List.getElem_mem hi)).1
  · exact (h3 _ (by rw [eth_eq _ _ hi]; exact List.getElem_mem hi)).2
end
end Go.Proofs.YtplbofhgmflnlaaGreat
end
