/-
  Order's first pass, in plain lists, and its steps on the memory.
-/
import Derived.Test.YtplbofhgmflnlaaGreatM17
set_option linter.unusedVariables false
set_option linter.unusedSimpArgs false
namespace Go.Proofs.YtplbofhgmflnlaaGreat
open Go.RowKit Go.Maps
section
variable {κ : Type} [DecidableEq κ]
/-- What is met among the first i, each once, as it is met. -/
def ddK (K : Nat → κ) : Nat → List κ
  | 0 => []
  | i + 1 => if K i ∈ ddK K i then ddK K i else ddK K i ++ [K i]
theorem mem_ddK (K : Nat → κ) (x : κ) : ∀ i, x ∈ ddK K i ↔ ∃ j, j < i ∧ K j = x
  | 0 => by simp [ddK]
  | i + 1 => by
    have ih := mem_ddK K x i
    simp only [ddK]
    split
    · rename_i hm
      rw [ih]
      constructor
      · rintro ⟨j, hj, e⟩; exact ⟨j, by omega, e⟩
      · rintro ⟨j, hj, e⟩
        rcases Nat.lt_or_ge j i with h | h
        · exact ⟨j, h, e⟩
        · obtain rfl : j = i := by omega
          rw [← e]; exact (mem_ddK K (K j) j).1 hm
    · rw [List.mem_append, List.mem_singleton, ih]
      constructor
      · rintro (⟨j, hj, e⟩ | e)
        · exact ⟨j, by omega, e⟩
        · exact ⟨i, by omega, e.symm⟩
      · rintro ⟨j, hj, e⟩
        rcases Nat.lt_or_ge j i with h | h
        · exact .inl ⟨j, h, e⟩
        · obtain rfl : j = i := by omega
          exact .inr e.symm
theorem nodup_ddK (K : Nat → κ) : ∀ i, (ddK K i).Nodup
  | 0 => by simp [ddK]
  | i + 1 => by
    simp only [ddK]
    split
    · exact nodup_ddK K i
    · rename_i hm
      rw [List.nodup_append]
      refine ⟨nodup_ddK K i, by simp, ?_⟩
      intro a ha c hc
      simp at hc; subst hc
      exact fun e => hm (e ▸ ha)
theorem ddK_len (K : Nat → κ) : ∀ i, (ddK K i).length ≤ i
  | 0 => by simp [ddK]
  | i + 1 => by
    have := ddK_len K i
    simp only [ddK]
    split
    · omega
    · simp; omega
end
def memI (K : Nat → List Int) (i : Nat) (key : List Int) : List Int := ((List.range i).filter fun j => decide (K j = key)).map Int.ofNat
def kbI (K : Nat → List Int) (i : Nat) (b : Int) : List (List Int) := (ddK K i).filter fun k => nth k 0 = b
def KB (K : Nat → List Int) (j : Nat) : Int := nth (K j) 0
theorem memI_succ (K : Nat → List Int) (i : Nat) : memI K (i + 1) = updF (memI K i) (K i) (memI K i (K i) ++ [(i : Int)]) := by
  funext key
  unfold updF
  split
  · rename_i e; subst e
    simp [memI, List.range_succ, List.filter_append]
  · rename_i e
    have e' : ¬ (K i = key) := fun h => e h.symm
    simp [memI, List.range_succ, List.filter_append, e']
theorem memI_none {K : Nat → List Int} {i : Nat} {key : List Int} (h : key ∉ ddK K i) : memI K i key = [] := by
  unfold memI
  rw [List.map_eq_nil_iff, List.filter_eq_nil_iff]
  intro j hj
  simp only [decide_eq_true_eq]
  exact fun e => h ((mem_ddK K key i).2 ⟨j, List.mem_range.1 hj, e⟩)
theorem memI_some {K : Nat → List Int} {i : Nat} {key : List Int} (h : key ∈ ddK K i) : (memI K i key).length ≠ 0 := by
  obtain ⟨j, hj, e⟩ := (mem_ddK K key i).1 h
  intro h0
  have := List.length_eq_zero_iff.1 h0
  unfold memI at this
  rw [List.map_eq_nil_iff, List.filter_eq_nil_iff] at this
  exact this j (List.mem_range.2 hj) (by simp [e])
theorem memI_len (K : Nat → List Int) (i : Nat) (key : List Int) : (memI K i key).length ≤ i := by
  unfold memI
  rw [List.length_map]
  exact Nat.le_trans (List.length_filter_le _ _) (by simp)
theorem kbI_old {K : Nat → List Int} {i : Nat} (h : K i ∈ ddK K i) : kbI K (i + 1) = kbI K i := by
  funext b; simp [kbI, ddK, h]
theorem kbI_new {K : Nat → List Int} {i : Nat} (h : K i ∉ ddK K i) : kbI K (i + 1) = updF (kbI K i) (KB K i) (kbI K i (KB K i) ++ [K i]) := by
  funext b
  unfold updF
  split
  · rename_i e; subst e
    simp [kbI, ddK, h, List.filter_append, KB]
  · rename_i e
    have e' : ¬ (nth (K i) 0 = b) := fun h => e h.symm
    simp [kbI, ddK, h, List.filter_append, e']
theorem kb_mem {K : Nat → List Int} {i : Nat} (h : K i ∈ ddK K i) : KB K i ∈ ddK (KB K) i := by
  obtain ⟨j, hj, e⟩ := (mem_ddK K _ i).1 h
  exact (mem_ddK _ _ i).2 ⟨j, hj, by simp [KB, e]⟩
theorem kbI_none {K : Nat → List Int} {i : Nat} {b : Int} (h : b ∉ ddK (KB K) i) : kbI K i b = [] := by
  unfold kbI
  rw [List.filter_eq_nil_iff]
  intro k hk
  simp only [decide_eq_true_eq]
  intro e
  obtain ⟨j, hj, e2⟩ := (mem_ddK K k i).1 hk
  exact h ((mem_ddK _ _ i).2 ⟨j, hj, by simp [KB, e2, e]⟩)
theorem kbI_some {K : Nat → List Int} {i : Nat} {b : Int} (h : b ∈ ddK (KB K) i) : (kbI K i b).length ≠ 0 := by
  obtain ⟨j, hj, e⟩ := (mem_ddK _ _ i).1 h
  intro h0
  have := List.length_eq_zero_iff.1 h0
  unfold kbI at this
  rw [List.filter_eq_nil_iff] at this
  exact this (K j) ((mem_ddK K _ i).2 ⟨j, hj, rfl⟩) (by simpa [KB] using e)
theorem kbI_len (K : Nat → List Int) (i : Nat) (b : Int) : (kbI K i b).length ≤ i := Nat.le_trans (List.length_filter_le _ _) (ddK_len K i)
/-! ### the memory -/
abbrev GSt (w1 w : World) (b7 b8 : Nat) (gs : List (List Int × Value)) (bs : List (Int × Value)) (vn : Value) (ns : List Int) (mem : List Int → List Int) (kb : Int → List (List Int)) (X : List Rw) : Prop :=
  Ws w1 w b7 b8 (M7l gs) (M8l bs) (X ++ (rwI vn ns :: (G7 mem gs ++ G8 kb bs)))
def St (w1 w : World) (b7 b8 : Nat) (K : Nat → List Int) (i : Nat) (vn : Value) (X : List Rw) : Prop :=
  ∃ gs bs, gs.map Prod.fst = ddK K i ∧ bs.map Prod.fst = ddK (KB K) i ∧ GSt w1 w b7 b8 gs bs vn (ddK (KB K) i) (memI K i) (kbI K i) X
theorem row_block {w : World} {B b n sz : Nat} {e : TypeId} {xs : List Value} (h : (⟨e, sz, .slice (some ⟨b, 0, none⟩) n n, n, xs⟩ : Rw).at w B) : w.heap[b]? = some (.cells xs.toArray e (0, 0)) := by
  obtain ⟨h0, h1⟩ := h
  rcases h1 with ⟨hv, -⟩ | ⟨g', cap, cur, hv, hg, hh, hnc, hcm, hs, ht⟩
  · cases hv
  · simp only [Value.slice.injEq, Option.some.injEq, Addr.mk.injEq, and_true] at hv
    obtain ⟨rfl, -, rfl⟩ := hv
    simp only at hh hs ht h0
    rw [hh, ← ht, ← hs, ← Array.length_toList, List.take_length]
theorem slice_row {w : World} {B : Nat} {r : Rw} (h : r.at w B) : ∃ a c, r.v = .slice a r.n c := by
  rcases h.2 with ⟨e1, e2⟩ | ⟨g, cap, cur, e1, -⟩
  · exact ⟨none, 0, by rw [e1, show r.n = 0 from e2]⟩
  · exact ⟨_, _, e1⟩
section
variable {w1 w : World} {b7 b8 : Nat} {gs : List (List Int × Value)} {bs : List (Int × Value)} {vn : Value} {ns : List Int} {mem : List Int → List Int} {kb : Int → List (List Int)} {X : List Rw}
theorem GSt.row7 (h : GSt w1 w b7 b8 gs bs vn ns mem kb X) {g : List Int × Value} (hg : g ∈ gs) : (rwI g.2 (mem g.1)).at w w1.heap.size :=
  h.rows.own _ (by simp only [List.mem_append, List.mem_cons]; exact .inr (.inr (.inl (List.mem_map.2 ⟨g, hg, rfl⟩))))
theorem GSt.row8 (h : GSt w1 w b7 b8 gs bs vn ns mem kb X) {g : Int × Value} (hg : g ∈ bs) : (rwG g.2 (kb g.1)).at w w1.heap.size :=
  h.rows.own _ (by simp only [List.mem_append, List.mem_cons]; exact .inr (.inr (.inr (List.mem_map.2 ⟨g, hg, rfl⟩))))
/-- What the members' map tells. -/
theorem GSt.look7 (h : GSt w1 w b7 b8 gs bs vn ns mem kb X) {key : List Int} (hl : key.length = 9) (hw : ∀ x ∈ key, wf64 x) (hm : key ∉ gs.map Prod.fst → mem key = []) :
    ∃ a c, ∀ W, Ext w W → (Instr.lookup 187 (.map (some b7)) (grV key) false).run Tryz.prog W = .ok (.slice a (mem key).length c) W := by
  by_cases hk : key ∈ gs.map Prod.fst
  · obtain ⟨g, hg, rfl⟩ := List.mem_map.1 hk
    obtain ⟨a, c, hv⟩ := slice_row (h.row7 hg)
    refine ⟨a, c, fun W e => ?_⟩
    have := (h.m7.ext e).look_yes keyed191 Tryz.underlying187 (key191 hl hw) (v := g.2) (List.mem_map.2 ⟨g, hg, rfl⟩) false
    rw [show g.2 = Value.slice a (mem g.1).length c from hv] at this
    simpa using this
  · refine ⟨none, 0, fun W e => ?_⟩
    have := (h.m7.ext e).look_no keyed191 Tryz.underlying187 (zero31 W) (key191 hl hw) (M7l_mem hk) false
    rw [hm hk]
    simpa using this
theorem GSt.look8 (h : GSt w1 w b7 b8 gs bs vn ns mem kb X) {b : Int} (hw : wf64 b) (hm : b ∉ bs.map Prod.fst → kb b = []) :
    ∃ a c, ∀ W, Ext w W → (Instr.lookup 188 (.map (some b8)) (.int .i64 b) false).run Tryz.prog W = .ok (.slice a (kb b).length c) W := by
  by_cases hk : b ∈ bs.map Prod.fst
  · obtain ⟨g, hg, rfl⟩ := List.mem_map.1 hk
    obtain ⟨a, c, hv⟩ := slice_row (h.row8 hg)
    refine ⟨a, c, fun W e => ?_⟩
    have := (h.m8.ext e).look_yes keyed3 Tryz.underlying188 (key3 hw) (v := g.2) (List.mem_map.2 ⟨g, hg, rfl⟩) false
    rw [show g.2 = Value.slice a (kb g.1).length c from hv] at this
    simpa using this
  · refine ⟨none, 0, fun W e => ?_⟩
    have := (h.m8.ext e).look_no keyed3 Tryz.underlying188 (zero193 W) (key3 hw) (M8l_mem hk) false
    rw [hm hk]
    simpa using this
theorem GSt.q10 (h : GSt w1 w b7 b8 gs bs vn ns mem kb X) (x : Int) {g : Nat} (hg : w.heap[g]? = some (.cells #[.int .i64 x] 3 (0, 0))) (hn : ns.length ≤ 1000000) :
    ∃ v' w', (Builtin.append_ #[31, 31] 31 #[vn, .slice (some ⟨g, 0, none⟩) 1 1]).run Tryz.prog w = .ok v' w' ∧ GSt w1 w' b7 b8 gs bs v' (ns ++ [x]) mem kb X := Ws.appN h x hg hn
theorem GSt.q12 (h : GSt w1 w b7 b8 gs bs vn ns mem kb X) {key : List Int} (hl : key.length = 9) (hw : ∀ x ∈ key, wf64 x)
    (hm : key ∉ gs.map Prod.fst → mem key = []) (hgl : gs.length ≤ 1000000) (hml : (mem key).length ≤ 1000000) (x : Int) {g : Nat} (hg : w.heap[g]? = some (.cells #[.int .i64 x] 3 (0, 0))) :
    ∃ v0 st w', (Instr.mapEntry 187 (.map (some b7)) (grV key)).run Tryz.prog w = .ok (.tuple #[v0, .int .i64 (st : Nat)]) w' ∧
    ∃ v' w'', (Builtin.append_ #[31, 31] 31 #[v0, .slice (some ⟨g, 0, none⟩) 1 1]).run Tryz.prog w' = .ok v' w'' ∧
    ∃ w3, (Instr.entryStore 187 (.map (some b7)) (.int .i64 (st : Nat)) v').run Tryz.prog w'' = .ok () w3 ∧
    ∃ gs', gs'.map Prod.fst = (if key ∈ gs.map Prod.fst then gs.map Prod.fst else gs.map Prod.fst ++ [key]) ∧ GSt w1 w3 b7 b8 gs' bs vn ns (updF mem key (mem key ++ [x])) kb X := by
  have e : X ++ (rwI vn ns :: (G7 mem gs ++ G8 kb bs)) = (X ++ [rwI vn ns]) ++ (G7 mem gs ++ G8 kb bs) := by simp
  have h' : Ws w1 w b7 b8 (M7l gs) (M8l bs) ((X ++ [rwI vn ns]) ++ (G7 mem gs ++ G8 kb bs)) := by rw [← e]; exact h
  obtain ⟨v0, st, w', r1, v', w'', r2, w3, r3, gs', e1, h3⟩ := p12 h' hl hw hm hgl hml x hg
  refine ⟨v0, st, w', r1, v', w'', r2, w3, r3, gs', e1, ?_⟩
  have e2 : X ++ (rwI vn ns :: (G7 (updF mem key (mem key ++ [x])) gs' ++ G8 kb bs)) = (X ++ [rwI vn ns]) ++ (G7 (updF mem key (mem key ++ [x])) gs' ++ G8 kb bs) := by simp
  unfold GSt; rw [e2]; exact h3
theorem GSt.q11 (h : GSt w1 w b7 b8 gs bs vn ns mem kb X) {b : Int} (hb : wf64 b) (hz : b ∉ bs.map Prod.fst → kb b = []) (hbl : bs.length ≤ 1000000) (hkl : (kb b).length ≤ 1000000) (key : List Int) :
    ∃ (V : Value) (S : World → Value → Prop) (R : World → Prop),
      (∀ W, Ext w W → (Instr.lookup 188 (.map (some b8)) (.int .i64 b) false).run Tryz.prog W = .ok V W) ∧
      (∀ W, Ext w W → ∀ g, W.heap[g]? = some (.cells (grC key).toArray 191 (0, 0)) → ∃ v' w', (Builtin.append_ #[193, 193] 193 #[V, .slice (some ⟨g, 0, none⟩) 1 1]).run Tryz.prog W = .ok v' w' ∧ S w' v') ∧
      (∀ W v', S W v' → (Instr.mapUpdate 188 (.map (some b8)) (.int .i64 b) v').run Tryz.prog W = .ok () (mapW 188 W b8 (.int .i64 b) v') ∧ R (mapW 188 W b8 (.int .i64 b) v')) ∧
      (∀ W v', S W v' → ∀ r ∈ X, r.at W w1.heap.size) ∧
      (∀ W, R W → ∃ bs', bs'.map Prod.fst = (if b ∈ bs.map Prod.fst then bs.map Prod.fst else bs.map Prod.fst ++ [b]) ∧ GSt w1 W b7 b8 gs bs' vn ns mem (updF kb b (kb b ++ [key])) X) := by
  have e : X ++ (rwI vn ns :: (G7 mem gs ++ G8 kb bs)) = X ++ ((rwI vn ns :: G7 mem gs) ++ G8 kb bs) := by simp
  have h' : Ws w1 w b7 b8 (M7l gs) (M8l bs) (X ++ ((rwI vn ns :: G7 mem gs) ++ G8 kb bs)) := by rw [← e]; exact h
  obtain ⟨V, S, R, h1, -, h2, h3, h4, h5⟩ := p11 h' hb hz hbl hkl key
  refine ⟨V, S, R, h1, h2, h3, h4, fun W hW => ?_⟩
  obtain ⟨bs', e1, h6⟩ := h5 W hW
  refine ⟨bs', e1, ?_⟩
  have e2 : X ++ (rwI vn ns :: (G7 mem gs ++ G8 (updF kb b (kb b ++ [key])) bs')) = X ++ ((rwI vn ns :: G7 mem gs) ++ G8 (updF kb b (kb b ++ [key])) bs') := by simp
  unfold GSt; rw [e2]; exact h6
theorem GSt.drop (h : GSt w1 w b7 b8 gs bs vn ns mem kb X) : GSt w1 w b7 b8 gs bs vn ns mem kb [] := Ws.sub h (List.sublist_append_right _ _)
theorem GSt.grow {w' : World} (h : GSt w1 w b7 b8 gs bs vn ns mem kb X) (e : Ext w w') : GSt w1 w' b7 b8 gs bs vn ns mem kb X := Ws.grow h e
end
end Go.Proofs.YtplbofhgmflnlaaGreat
