/-
  Texts merged: B7, M3, M4, M5, M6, M7.
-/
import Derived.Test.YtlahejakcgoheaaM2
section
/-
  Base words: what becomes of a vault's memory.
-/
set_option linter.unusedVariables false
set_option linter.unusedSimpArgs false
namespace Go.Proofs.Ytlahejakcgoheaa
open Go.RowKit
theorem nodup_swap {A X B X' : List Nat} {n : Nat} (h : (A ++ (X ++ B)).Nodup) (hX : X'.Nodup) (hs : ∀ x ∈ X', x ∈ X ∨ n ≤ x) (hl : ∀ a ∈ A ++ (X ++ B), a < n) : (A ++ (X' ++ B)).Nodup := by
  rw [List.nodup_append] at h ⊢
  obtain ⟨h1, h2, h3⟩ := h
  rw [List.nodup_append] at h2
  obtain ⟨h4, h5, h6⟩ := h2
  refine ⟨h1, List.nodup_append.2 ⟨hX, h5, fun a ha b hb e => ?_⟩, fun a ha b hb e => ?_⟩
  · rcases hs a ha with q | q
    · exact h6 a q b hb e
    · have := hl b (by simp [hb]); omega
  · rcases List.mem_append.1 hb with hb | hb
    · rcases hs b hb with q | q
      · exact h3 a ha b (by simp [q]) e
      · have := hl a (by simp [ha]); omega
    · exact h3 a ha b (by simp [hb]) e
theorem nodup_apart {A X B : List Nat} (h : (A ++ (X ++ B)).Nodup) : ∀ k ∈ X, k ∉ A ∧ k ∉ B := by
  rw [List.nodup_append, List.nodup_append] at h
  obtain ⟨h1, ⟨h4, h5, h6⟩, h3⟩ := h
  intro k hk
  exact ⟨fun q => h3 k q k (by simp [hk]) rfl, fun q => h6 k hk k q rfl⟩
/-- The blocks ahead of the customers'. -/
def headF (V : Vw) : List Nat := V.vb :: V.mb :: ob V.ca
theorem foot_eq (V : Vw) : foot V = headF V ++ V.cus.flatMap cfoot := by simp [foot, headF]
theorem foot_split {V : Vw} {l1 l2 : List Cw} {c : Cw} (h : V.cus = l1 ++ c :: l2) : foot V = (headF V ++ l1.flatMap cfoot) ++ (cfoot c ++ l2.flatMap cfoot) := by
  rw [foot_eq, h, List.flatMap_append, List.flatMap_cons]; simp [List.append_assoc]
/-- One customer's memory has turned. -/
theorem VwAt.cust {w w' : World} {V : Vw} {L : List Cl} (h : VwAt w V L) {l1 l2 : List Cw} {c c' : Cw} (hV : V.cus = l1 ++ c :: l2) (hn : c'.name = c.name) (hcb : c'.cb = c.cb) (hc : CwAt w' c')
    (hk : ∀ k, k < w.heap.size → k ∉ cfoot c → w'.heap[k]? = w.heap[k]?) (hs : w.heap.size ≤ w'.heap.size) (hf : ∀ k ∈ cfoot c', k ∈ cfoot c ∨ w.heap.size ≤ k) (hnd : (cfoot c').Nodup)
    (hr : ∀ r ∈ c'.recs, ∀ y ∈ r.ls, y ∈ L) (hsh : ∀ q ∈ c'.shares, q.2 ∈ L) : VwAt w' { V with cus := l1 ++ c' :: l2 } L := by
  have hnd0 := h.nd
  rw [foot_split hV] at hnd0
  have hap := nodup_apart hnd0
  have hlt := h.lt
  have hcm : ∀ k, k ∈ headF V ++ l1.flatMap cfoot ∨ k ∈ l2.flatMap cfoot → w'.heap[k]? = w.heap[k]? := fun k q => by
    refine hk k (hlt k ?_) fun q2 => ?_
    · rw [foot_split hV]
      rcases q with q | q
      · exact List.mem_append_left _ q
      · exact List.mem_append_right _ (List.mem_append_right _ q)
    · have := hap k q2
      rcases q with q | q
      · exact this.1 q
      · exact this.2 q
  have hV' : ({ V with cus := l1 ++ c' :: l2 } : Vw).cus = l1 ++ c' :: l2 := rfl
  have hh : headF { V with cus := l1 ++ c' :: l2 } = headF V := rfl
  have hfoot : foot { V with cus := l1 ++ c' :: l2 } = (headF V ++ l1.flatMap cfoot) ++ (cfoot c' ++ l2.flatMap cfoot) := by rw [foot_split hV', hh]
  refine ⟨?_, ?_, ?_, ?_, ?_, h.chain, ?_, ?_, ?_⟩
  · exact (hcm V.vb (.inl (by simp [headF]))).trans h.blk
  · have e : cusM (l1 ++ c' :: l2) = cusM V.cus := by rw [hV]; simp [cusM, hn, hcb]
    show MapAt 9 w' V.mb (cusM (l1 ++ c' :: l2))
    rw [e]
    exact h.map.of_block (hcm V.mb (.inl (by simp [headF])))
  · intro d hd
    rcases List.mem_append.1 hd with hd | hd
    · exact (h.cus d (by rw [hV]; simp [hd])).frame fun k q => hcm k (.inl (List.mem_append_right _ (List.mem_flatMap.2 ⟨d, hd, q⟩)))
    · rcases List.mem_cons.1 hd with rfl | hd
      · exact hc
      · exact (h.cus d (by rw [hV]; simp [hd])).frame fun k q => hcm k (.inr (List.mem_flatMap.2 ⟨d, hd, q⟩))
  · refine own_of_block h.row fun k q => hcm k (.inl ?_)
    have := own_slice_block _ _ _ k q
    simp [headF, this]
  · refine h.links.frame (fun k q q2 => hk k q fun q3 => q2 ?_) (fun k q => ?_) hs
    · rw [foot_split hV]; simp [q3]
    · rw [hfoot] at q
      rw [foot_split hV]
      rcases List.mem_append.1 q with q | q
      · exact .inl (List.mem_append_left _ q)
      · rcases List.mem_append.1 q with q | q
        · rcases hf k q with q | q
          · exact .inl (List.mem_append_right _ (List.mem_append_left _ q))
          · exact .inr q
        · exact .inl (List.mem_append_right _ (List.mem_append_right _ q))
  · intro d hd
    rcases List.mem_append.1 hd with hd | hd
    · exact h.recs d (by rw [hV]; simp [hd])
    · rcases List.mem_cons.1 hd with rfl | hd
      · exact hr
      · exact h.recs d (by rw [hV]; simp [hd])
  · intro d hd
    rcases List.mem_append.1 hd with hd | hd
    · exact h.shares d (by rw [hV]; simp [hd])
    · rcases List.mem_cons.1 hd with rfl | hd
      · exact hsh
      · exact h.shares d (by rw [hV]; simp [hd])
  · rw [hfoot]
    exact nodup_swap hnd0 hnd hf (by rw [← foot_split hV]; exact hlt)
/-- A customer more. -/
theorem VwAt.newc {w w' : World} {V : Vw} {L : List Cl} (h : VwAt w V L) {c : Cw} (hm : MapAt 9 w' V.mb (cusM V.cus ++ [(.string c.name, ptr c.cb)])) (hc : CwAt w' c)
    (hk : ∀ k, k < w.heap.size → k ≠ V.mb → w'.heap[k]? = w.heap[k]?) (hs : w.heap.size ≤ w'.heap.size) (hf : ∀ k ∈ cfoot c, w.heap.size ≤ k) (hnd : (cfoot c).Nodup)
    (hr : ∀ r ∈ c.recs, ∀ y ∈ r.ls, y ∈ L) (hsh : ∀ q ∈ c.shares, q.2 ∈ L) : VwAt w' { V with cus := V.cus ++ [c] } L := by
  have hlt := h.lt
  have hnd0 := h.nd
  have hfoot : foot { V with cus := V.cus ++ [c] } = foot V ++ cfoot c := by rw [foot_eq, foot_eq]; simp [headF]
  have hne : ∀ k, k ∈ foot V → k ≠ V.mb → w'.heap[k]? = w.heap[k]? := fun k q q2 => hk k (hlt k q) q2
  have hnd1 : V.mb ∉ V.cus.flatMap cfoot ∧ V.mb ∉ ob V.ca ∧ V.vb ≠ V.mb := by
    unfold foot at hnd0
    simp only [List.nodup_cons, List.mem_cons, List.mem_append, not_or] at hnd0
    exact ⟨hnd0.2.1.2, hnd0.2.1.1, hnd0.1.1⟩
  refine ⟨?_, ?_, ?_, ?_, ?_, h.chain, ?_, ?_, ?_⟩
  · exact (hne V.vb (by simp [foot]) hnd1.2.2).trans h.blk
  · show MapAt 9 w' V.mb (cusM (V.cus ++ [c]))
    have : cusM (V.cus ++ [c]) = cusM V.cus ++ [(.string c.name, ptr c.cb)] := by simp [cusM]
    rw [this]; exact hm
  · intro d hd
    rcases List.mem_append.1 hd with hd | hd
    · refine (h.cus d hd).frame fun k q => hne k ?_ fun e => hnd1.1 (e ▸ List.mem_flatMap.2 ⟨d, hd, q⟩)
      simp only [foot, List.mem_cons, List.mem_append, List.mem_flatMap]
      exact .inr (.inr (.inr ⟨d, hd, q⟩))
    · rcases List.mem_cons.1 hd with rfl | hd
      · exact hc
      · cases hd
  · refine own_of_block h.row fun k q => ?_
    have q2 := own_slice_block _ _ _ k q
    exact hne k (by simp [foot, q2]) fun e => hnd1.2.1 (e ▸ q2)
  · refine h.links.frame (fun k q q2 => hk k q fun e => q2 (by rw [e]; simp [foot])) (fun k q => ?_) hs
    rw [hfoot] at q
    rcases List.mem_append.1 q with q | q
    · exact .inl q
    · exact .inr (hf k q)
  · intro d hd
    rcases List.mem_append.1 hd with hd | hd
    · exact h.recs d hd
    · rcases List.mem_cons.1 hd with rfl | hd
      · exact hr
      · cases hd
  · intro d hd
    rcases List.mem_append.1 hd with hd | hd
    · exact h.shares d hd
    · rcases List.mem_cons.1 hd with rfl | hd
      · exact hsh
      · cases hd
  · rw [hfoot, List.nodup_append]
    exact ⟨hnd0, hnd, fun a ha b hb e => by have := hlt a ha; have := hf b hb; omega⟩
/-- The vault's own cells have turned. -/
theorem VwAt.head {w w' : World} {V : Vw} {L : List Cl} (h : VwAt w V L) (day adv : Int) (hb : w'.heap[V.vb]? = some (.cells (vcells { V with day := day, adv := adv }) 106 (0, 0)))
    (hk : ∀ k, k < w.heap.size → k ≠ V.vb → w'.heap[k]? = w.heap[k]?) (hs : w.heap.size ≤ w'.heap.size) : VwAt w' { V with day := day, adv := adv } L := by
  have hlt := h.lt
  have hnd0 := h.nd
  have hnv : ∀ k ∈ V.mb :: (ob V.ca ++ V.cus.flatMap cfoot), k ≠ V.vb ∧ k ∈ foot V := fun k q => by
    unfold foot at hnd0 ⊢
    rw [List.nodup_cons] at hnd0
    exact ⟨fun e => hnd0.1 (e ▸ q), List.mem_cons_of_mem _ q⟩
  have hne : ∀ k, k ∈ V.mb :: (ob V.ca ++ V.cus.flatMap cfoot) → w'.heap[k]? = w.heap[k]? := fun k q => hk k (hlt k (hnv k q).2) (hnv k q).1
  refine ⟨hb, h.map.of_block (hne _ (by simp)), fun d hd => (h.cus d hd).frame fun k q => hne k (by simp only [List.mem_cons, List.mem_append, List.mem_flatMap]; exact .inr (.inr ⟨d, hd, q⟩)),
    own_of_block h.row fun k q => hne k (by have := own_slice_block _ _ _ k q; simp [this]), ?_, h.chain, h.recs, h.shares, h.nd⟩
  exact h.links.frame (fun k q q2 => hk k q fun e => q2 (by rw [e]; simp [foot])) (fun k q => .inl q) hs
/-- A link more in the chain. -/
theorem VwAt.chained {w w' : World} {V : Vw} {L : List Cl} (h : VwAt w V L) (y : Cl) (ca : Option Addr) (cc : Nat) (hy : y ∈ L) (hb : w'.heap[V.vb]? = some (.cells (vcells { V with ca := ca, cc := cc, chain := V.chain ++ [y] }) 106 (0, 0)))
    (hrow : w'.ownsRow 0 74 1 (.slice ca (V.chain ++ [y]).length cc) (V.chain ++ [y]).length (rowP (V.chain ++ [y]))) (hca : ∀ k ∈ ob ca, k ∈ ob V.ca ∨ w.heap.size ≤ k)
    (hk : ∀ k, k < w.heap.size → k ≠ V.vb → k ∉ ob V.ca → w'.heap[k]? = w.heap[k]?) (hs : w.heap.size ≤ w'.heap.size) : VwAt w' { V with ca := ca, cc := cc, chain := V.chain ++ [y] } L := by
  have hlt := h.lt
  have hnd0 := h.nd
  have hnd1 := hnd0
  unfold foot at hnd1
  simp only [List.nodup_cons, List.mem_cons, List.mem_append, not_or, List.nodup_append] at hnd1
  obtain ⟨⟨n1, n2, n3⟩, ⟨n4, n5⟩, n6, n7, n8⟩ := hnd1
  have hne : ∀ k, k ∈ foot V → k ≠ V.vb → k ∉ ob V.ca → w'.heap[k]? = w.heap[k]? := fun k q => hk k (hlt k q)
  refine ⟨hb, h.map.of_block (hne _ (by simp [foot]) (fun e => n1 e.symm) n4), fun d hd => (h.cus d hd).frame fun k q => ?_, hrow, ?_, fun z hz => ?_, h.recs, h.shares, ?_⟩
  · have q2 : k ∈ V.cus.flatMap cfoot := List.mem_flatMap.2 ⟨d, hd, q⟩
    exact hne k (by simp only [foot, List.mem_cons, List.mem_append]; exact .inr (.inr (.inr q2))) (fun e => n3 (e ▸ q2)) (fun q3 => n8 k q3 k q2 rfl)
  · refine h.links.frame (fun k q q2 => hk k q (fun e => q2 (by rw [e]; simp [foot])) (fun q3 => q2 (by simp [foot, q3]))) (fun k q => ?_) hs
    simp only [foot, List.mem_cons, List.mem_append] at q ⊢
    rcases q with q | q | q | q
    · exact .inl (.inl q)
    · exact .inl (.inr (.inl q))
    · rcases hca k q with q | q
      · exact .inl (.inr (.inr (.inl q)))
      · exact .inr q
    · exact .inl (.inr (.inr (.inr q)))
  · rcases List.mem_append.1 hz with hz | hz
    · exact h.chain z hz
    · simp at hz; subst hz; exact hy
  · have e1 : foot V = [V.vb, V.mb] ++ (ob V.ca ++ V.cus.flatMap cfoot) := rfl
    have e2 : foot { V with ca := ca, cc := cc, chain := V.chain ++ [y] } = [V.vb, V.mb] ++ (ob ca ++ V.cus.flatMap cfoot) := rfl
    rw [e2]
    rw [e1] at hnd0 hlt
    refine nodup_swap hnd0 ?_ hca hlt
    cases ca <;> simp [ob]
/-- A link more that is known. -/
theorem VwAt.more {w : World} {V : Vw} {L : List Cl} (h : VwAt w V L) (y : Cl) (h1 : LinkAt w y.b y.x) (h2 : LkOk y.l) (h3 : y.b ∉ foot V) (h4 : ∀ k ∈ ob y.x.ba, k ∉ foot V ∧ k < w.heap.size) (h5 : y.l.bo.length ≤ y.x.bc) : VwAt w V (L ++ [y]) :=
  ⟨h.blk, h.map, h.cus, h.row, fun z hz => by
    rcases List.mem_append.1 hz with hz | hz
    · exact h.links z hz
    · simp at hz; subst hz; exact ⟨h1, h2, h3, h4, h5⟩, fun z hz => List.mem_append_left _ (h.chain z hz), fun c hc r hr z hz => List.mem_append_left _ (h.recs c hc r hr z hz), fun c hc q hq => List.mem_append_left _ (h.shares c hc q hq), h.nd⟩
theorem VwAt.sub {w : World} {V : Vw} {L L' : List Cl} (h : VwAt w V L) (h1 : ∀ y ∈ L', y ∈ L) (h2 : ∀ y ∈ V.chain, y ∈ L') (h3 : ∀ c ∈ V.cus, ∀ r ∈ c.recs, ∀ y ∈ r.ls, y ∈ L') (h4 : ∀ c ∈ V.cus, ∀ q ∈ c.shares, q.2 ∈ L') : VwAt w V L' :=
  ⟨h.blk, h.map, h.cus, h.row, fun y hy => h.links y (h1 y hy), h2, h3, h4, h.nd⟩
end Go.Proofs.Ytlahejakcgoheaa
end
section
/-
  Walk: put.
-/
set_option linter.unusedVariables false
set_option linter.unusedSimpArgs false
namespace Go.Proofs.Ytlahejakcgoheaa
open Go.RowKit
theorem info74 : (Try.prog.info? 74).map (fun i => (i.zero, i.size, i.bytes)) = some (some (.pointer none), 1, 8) := by kernel_rfl
theorem rowP_len (ls : List Cl) : (rowP ls).length = ls.length := by simp [rowP]
theorem rowP_one (ls : List Cl) : ∀ u ∈ rowP ls, u.oneCell' = true := by
  intro u hu
  simp only [rowP, List.mem_map] at hu
  obtain ⟨x, _, rfl⟩ := hu
  rfl
theorem rowP_append (a b : List Cl) : rowP (a ++ b) = rowP a ++ rowP b := by simp [rowP]
/-- Where a slice lies that was appended to. -/
theorem own_slice {w : World} {B e sz : Nat} {v : Value} {n : Nat} {xs : List Value} (h : w.ownsRow B e sz v n xs) : ∃ a c, v = .slice a n c := by
  rcases h.2 with ⟨h, hn⟩ | ⟨g, cap, cur, h, _⟩
  · exact ⟨none, 0, by rw [h, hn]⟩
  · exact ⟨_, _, h⟩
theorem ob_of_own (a : Option Addr) (n c : Nat) : (Value.slice a n c).ownBlock = a.map (·.block) := by cases a <;> rfl
/-- 'append(v, p)' at a slice of links (or a record, which is one): t the slice's type. -/
theorem app_ptr (w : World) (t ty : TypeId) (ht : Try.prog.underlying t = some (.slice 74)) (a : Option Addr) (c : Nat) (ls : List Cl) (y : Cl) (h : w.ownsRow 0 74 1 (.slice a ls.length c) ls.length (rowP ls)) (hn : ls.length ≤ 1000000) :
    ∃ v' w', (Builtin.append_ #[t, t] ty #[.slice a ls.length c, .slice (some ⟨w.heap.size, 0, none⟩) 1 1]).run Try.prog (w.alloc (.cells #[ptr y.b] 74)) = .ok v' w' ∧
      (∃ a' c', v' = .slice a' (ls ++ [y]).length c' ∧ w'.ownsRow 0 74 1 (.slice a' (ls ++ [y]).length c') (ls ++ [y]).length (rowP (ls ++ [y])) ∧ (w.alloc (.cells #[ptr y.b] 74)).grownBy w' (a.map (·.block)) ∧ ∀ k ∈ ob a', k ∈ ob a ∨ w.heap.size ≤ k) := by
  obtain ⟨i0, hi, hz0, hz1, hz2⟩ := info_parts info74
  have hc1 := obj_cells1 (heap_new w (.cells #[ptr y.b] 74)) _ (Ext.refl _)
  obtain ⟨v', w', r1, r2, r3, r4, r5⟩ := run_append_own_at (P := Try.prog) (w.alloc (.cells #[ptr y.b] 74)) 0 t ty 74 i0 (.pointer none) 1 8 ht hi hz0 hz1 hz2 rfl (by omega) _ ls.length (rowP ls) (h.alloc _)
    ⟨w.heap.size, 0, none⟩ 1 1 [ptr y.b] rfl (fun j u hj => by
      have : j = 0 := by
        rcases Nat.lt_or_ge j 1 with h | h
        · omega
        · rw [List.getElem?_eq_none (by simpa using h)] at hj; cases hj
      subst this
      simp at hj; subst hj
      rw [Addr.add_lit]; exact hc1) (by simp [Value.oneCell']) (by unfold maxLen; omega) (by omega) (Nat.zero_le _)
  obtain ⟨a', c', rfl⟩ := own_slice r2
  have e : (ls ++ [y]).length = ls.length + 1 := by simp
  refine ⟨_, w', r1, a', c', by rw [e], ?_, ?_, ?_⟩
  · rw [e, rowP_append]; exact r2
  · rw [← ob_of_own a ls.length c]; exact r3
  · intro k hk
    rw [ob_of_own, ob_of_own] at r5
    simp only [ob, Option.mem_toList] at hk ⊢
    rcases r5 with q | q
    · rw [q] at hk; exact .inl hk
    · rw [q] at hk
      simp at hk
      right
      rw [← hk]
      simp
/-- What 'put' leaves if the link fits. -/
def RetPut (V : Vw) (y : Cl) (w : World) (e : Ending) (w' : World) : Prop :=
  e = .returned (.bool true) ∧ ∃ V', V'.p = putS V.p y.l ∧ V'.vb = V.vb ∧ V'.chain = V.chain ++ [y] ∧ VwAt w' V' V'.chain ∧ Upd (foot V) w w' ∧ ∀ k ∈ foot V', k ∈ foot V ∨ w.heap.size ≤ k
/-- The chain's end. -/
theorem put_tail {w w2 w3 : World} {V V2 : Vw} {y : Cl} (h2 : VwAt w2 V2 (V2.chain ++ [y])) (hu : Upd (foot V) w w2) (hsub : ∀ k ∈ foot V2, k ∈ foot V ∨ w.heap.size ≤ k) (ca : Option Addr) (cc : Nat)
    (hown : w3.ownsRow 0 74 1 (.slice ca (V2.chain ++ [y]).length cc) (V2.chain ++ [y]).length (rowP (V2.chain ++ [y]))) (hg : (w2.alloc (.cells #[ptr y.b] 74)).grownBy w3 (V2.ca.map (·.block))) (hloc : ∀ k ∈ ob ca, k ∈ ob V2.ca ∨ w2.heap.size ≤ k)
    (hch : V2.chain = V.chain) (hvb : V2.vb = V.vb) (hp : { V2.p with chain := V2.p.chain ++ [y.l] } = putS V.p y.l) :
    RetPut V y w (.returned (.bool true)) (w3.setCell ⟨V2.vb, 3, none⟩ (.slice ca (V2.chain ++ [y]).length cc)) := by
  have hsz : w2.heap.size ≤ w3.heap.size := by have := hg.size; simp at this; omega
  have hlt := h2.lt
  have hvl : V2.vb < w2.heap.size := hlt _ (by simp [foot])
  have hgb : ∀ k, k < w2.heap.size → k ∉ ob V2.ca → w3.heap[k]? = w2.heap[k]? := fun k q q2 => by
    rw [hg.block k (by simp; omega) (fun e => q2 (by simp [ob, ← e])), heap_old _ _ _ q]
  have hnv : V2.vb ∉ ob V2.ca := by
    have := h2.nd
    unfold foot at this
    simp only [List.nodup_cons, List.mem_cons, List.mem_append, not_or] at this
    exact this.1.2.1
  have hb : (w3.setCell ⟨V2.vb, 3, none⟩ (.slice ca (V2.chain ++ [y]).length cc)).heap[V2.vb]? = some (.cells (vcells { V2 with ca := ca, cc := cc, chain := V2.chain ++ [y] }) 106 (0, 0)) := by
    have := block_set ((hgb V2.vb hvl hnv).trans h2.blk) 3 (.slice ca (V2.chain ++ [y]).length cc)
    rw [this]; simp [vcells]
  have hnew := h2.chained (w' := w3.setCell ⟨V2.vb, 3, none⟩ (.slice ca (V2.chain ++ [y]).length cc)) y ca cc (by simp) hb (own_of_block hown fun k q => heap_set_ne _ (fun e => by
      have q2 := own_slice_block _ _ _ k q
      subst e
      rcases hloc _ q2 with q3 | q3
      · exact hnv q3
      · omega)) hloc (fun k q q2 q3 => by rw [heap_set_ne _ q2]; exact hgb k q q3) (by simpa [World.setCell] using hsz)
  refine ⟨rfl, { V2 with ca := ca, cc := cc, chain := V2.chain ++ [y] }, ?_, hvb, ?_, hnew, ?_, ?_⟩
  · rw [← hp]; simp [Vw.p]
  · show V2.chain ++ [y] = _; rw [hch]
  · refine Upd.set (Upd.grown (hu.alloc _) hg fun k q => ?_) (.inl (hvb ▸ by simp [foot])) _
    exact hsub k (by simp [foot, ob, q])
  · intro k q
    simp only [foot, List.mem_cons, List.mem_append] at q
    rcases q with q | q | q | q
    · exact hsub k (by simp [foot, q])
    · exact hsub k (by simp [foot, q])
    · rcases hloc k q with q | q
      · exact hsub k (by simp [foot, q])
      · right; have := hu.size; omega
    · exact hsub k (by simp only [foot, List.mem_cons, List.mem_append]; exact .inr (.inr (.inr q)))
theorem tail_blk {w2 w3 : World} {V2 : Vw} {L : List Cl} {o : Obj} (h2 : VwAt w2 V2 L) (hg : (w2.alloc o).grownBy w3 (V2.ca.map (·.block))) : w3.heap[V2.vb]? = some (.cells (vcells V2) 106 (0, 0)) := by
  have hvl : V2.vb < w2.heap.size := h2.lt _ (by simp [foot])
  have hnv : V2.vb ∉ ob V2.ca := by
    have := h2.nd
    unfold foot at this
    simp only [List.nodup_cons, List.mem_cons, List.mem_append, not_or] at this
    exact this.1.2.1
  rw [hg.block _ (by simp; omega) (fun e => hnv (by simp [ob, ← e])), heap_old _ _ _ hvl]
  exact h2.blk
set_option maxRecDepth 100000 in
set_option maxHeartbeats 4000000 in
theorem put_2 (V : Vw) (y : Cl) (w : World) (h : VwAt w V V.chain) (hp : PVOk V.p) (hy : VwAt w V (V.chain ++ [y])) (hn : V.chain.length ≤ 1000000) (hc : couldB V.p y.l = true) (ho : y.x.l.op = 2) : Calls Try.prog 60 #[ptr V.vb, ptr y.b] w (RetPut V y w) := by
  obtain ⟨hy1, hy2, -⟩ := hy.links y (by simp)
  have hcd := could_any V V.chain y w h hp hy1 hy2
  rw [hc] at hcd
  have HC := Lib.hid hcd
  have a0 := hp.a0; have a1 := hp.a1
  simp only [Vw.p] at a0 a1
  have HY := Lib.hid hy
  have HW := Lib.hid hy1.1
  have hyb : ¬ y.b = V.vb := fun e => (hy.links y (by simp)).2.2.1 (by rw [e]; simp [foot])
  have HO := Lib.hid ho
  clear hcd h hp hy hy1 hy2 hc
  go_enter Try.func60, Try.ntmps60
  go_wp2_with (fail)
  (with_reducible refine HC.out.mono ?_); rintro e w1 ⟨rfl, he1⟩
  have hw1 := HY.out.ext he1
  obtain ⟨v0, v1, v2, v3⟩ := obj_cells4 hw1.blk
  obtain ⟨c0, c1, c2, c3, c4, c5, c6, c7, c8, c9⟩ := obj_cells10 (he1.block HW.out)
  have vf := obj_free hw1.blk w1 (Ext.refl _)
  replace v1 := v1 w1 (Ext.refl _); replace v2 := v2 w1 (Ext.refl _); replace v3 := v3 w1 (Ext.refl _)
  replace c0 := c0 w1 (Ext.refl _); replace c5 := c5 w1 (Ext.refl _)
  have ho2 : (y.x.l.op : Int) = 2 := by omega
  rw [ho2] at c0
  have H1 := Lib.hid hw1
  clear v0 c1 c2 c3 c4 c6 c7 c8 c9 hw1 ho2 ho
  go_upto_region 19 with fail
  obtain ⟨V2, hV2⟩ : ∃ V2 : Vw, V2 = { V with day := y.x.l.da, adv := V.adv + 1 } := ⟨_, rfl⟩
  have hu2 := ((he1.upd (F := foot V)).set (p := ⟨V.vb, 1, none⟩) (.inl (by simp [foot])) (.int .i64 y.x.l.da)).set (p := ⟨V.vb, 2, none⟩) (.inl (by simp [foot])) (.int .i64 (V.adv + 1))
  have h2 : VwAt ((w1.setCell ⟨V.vb, 1, none⟩ (.int .i64 y.x.l.da)).setCell ⟨V.vb, 2, none⟩ (.int .i64 (V.adv + 1))) V2 (V2.chain ++ [y]) := by
    subst hV2
    refine H1.out.head _ _ ?_ (fun k q q2 => by rw [heap_set_ne _ q2, heap_set_ne _ q2]) (by simp [World.setCell])
    have := block_set (block_set H1.out.blk 1 (.int .i64 y.x.l.da)) 2 (.int .i64 (V.adv + 1))
    rw [this]; simp [vcells]
  have hs2 : ∀ k ∈ foot V2, k ∈ foot V ∨ w.heap.size ≤ k := by subst hV2; exact fun k q => .inl q
  have HVB : Hid (V2.vb = V.vb) := by rw [hV2]; rfl
  have HCH : Hid (V2.chain = V.chain) := by rw [hV2]; rfl
  have HP : Hid ({ V2.p with chain := V2.p.chain ++ [y.l] } = putS V.p y.l) := by rw [Hid, hV2]; simp [putS, HO.out, Vw.p]
  have H2 := Lib.hid h2; have HU := Lib.hid hu2; have HS := Lib.hid hs2
  clear hV2 h2 hu2 hs2 v1 v2 v3 c0 c5 vf H1
  generalize World.setCell _ _ _ = w2 at *
  obtain ⟨v0, v1, v2, v3⟩ := obj_cells4 H2.out.blk
  have vf := obj_free H2.out.blk w2 (Ext.refl _)
  replace v3 := v3 w2 (Ext.refl _)
  rw [HVB.out] at v3 vf
  have happ := app_ptr w2 104 104 Try.underlying104 V2.ca V2.cc V2.chain y H2.out.row (by rw [HCH.out]; exact hn)
  have HA := Lib.hid happ
  clear v0 v1 v2 happ
  go_wp2_with (at_builtin; refine wpList_app _ rfl _ _ 104 rfl _ HA.out ?_; rintro v' w3 ⟨ca, cc, rfl, hown, hg, hloc⟩; have hb3 := tail_blk H2.out hg; rw [HVB.out] at hb3; have v3 := (obj_cells4 hb3).2.2.2 w3 (Ext.refl _); have vf := obj_free hb3 w3 (Ext.refl _); clear hb3; have HOWN := Lib.hid hown; have HG := Lib.hid hg; have HLOC := Lib.hid hloc; clear hown hg hloc)
  go_ret
  rw [← HVB.out]
  have hpt := put_tail H2.out HU.out HS.out ca cc HOWN.out HG.out HLOC.out HCH.out HVB.out HP.out
  rw [show (V2.chain ++ [y]).length = V2.chain.length + 1 by simp] at hpt
  exact hpt
end Go.Proofs.Ytlahejakcgoheaa
end
section
/-
  Walk: put of a customer.
-/
set_option linter.unusedVariables false
set_option linter.unusedSimpArgs false
namespace Go.Proofs.Ytlahejakcgoheaa
open Go.RowKit
/-- The world behind a store into a map. -/
noncomputable def mapW (t : TypeId) (W : World) (b : Nat) (k v : Value) : World := match (Instr.mapUpdate t (.map (some b)) k v).run Try.prog W with | .ok _ w' => w' | .halt _ w' => w'
theorem run_mapW {t : TypeId} {W : World} {b : Nat} {k v : Value} {R : World → Prop} (h : ∃ w', (Instr.mapUpdate t (.map (some b)) k v).run Try.prog W = .ok () w' ∧ R w') :
    (Instr.mapUpdate t (.map (some b)) k v).run Try.prog W = .ok () (mapW t W b k v) ∧ R (mapW t W b k v) := by
  obtain ⟨w', h1, h2⟩ := h
  have : mapW t W b k v = w' := by unfold mapW; rw [h1]
  rw [this]; exact ⟨h1, h2⟩
theorem ExtX.alloc {X : Nat} {w W : World} (h : ExtX X w W) (o : Obj) : ExtX X w (W.alloc o) := h.trans (((Ext.refl W).alloc o).x)
theorem ExtX.drew {X : Nat} {w W : World} (h : ExtX X w W) : ExtX X w W.drew := h.trans (((Ext.refl W).drew).x)
theorem ExtX.turned {X : Nat} {w W W' : World} (h : ExtX X w W) (k : Turned W W' X) : ExtX X w W' := h.trans ⟨k.os, k.tape, k.output, Nat.le_of_eq k.size.symm, fun i _ q => k.block i q⟩
attribute [go_sem] ExtX.refl ExtX.alloc ExtX.drew
theorem could_1 {S : PV} {l : Lk} (h : couldB S l = true) (ho : l.op = 1) : nameB l.cu = true ∧ S.find l.cu = none ∧ S.cus.length < 20 := by
  have hp : plainB l = true := by
    unfold couldB at h
    by_cases q : plainB l = true
    · exact q
    · rw [if_neg q] at h; cases h
  rw [couldB_1 S l hp ho] at h
  simp at h
  exact ⟨h.1, h.2.1, by omega⟩
theorem nameB_size {s : ByteArray} (h : nameB s = true) : 1 ≤ s.size ∧ s.size ≤ 20 := by
  unfold nameB at h
  simp at h
  have := h.2.1
  exact ⟨by
    rcases Nat.eq_zero_or_pos s.size with q | q
    · exfalso; apply this; exact ByteArray.ext (by have : s.data.size = 0 := q; rw [Array.eq_empty_of_size_eq_zero this]; rfl)
    · exact q, h.2.2⟩
set_option maxRecDepth 100000 in
set_option maxHeartbeats 8000000 in
theorem put_1 (V : Vw) (y : Cl) (w : World) (h : VwAt w V V.chain) (hp : PVOk V.p) (hy : VwAt w V (V.chain ++ [y])) (hn : V.chain.length ≤ 1000000) (hc : couldB V.p y.l = true) (ho : y.x.l.op = 1) : Calls Try.prog 60 #[ptr V.vb, ptr y.b] w (RetPut V y w) := by
  obtain ⟨hy1, hy2, -⟩ := hy.links y (by simp)
  have hcd := could_any V V.chain y w h hp hy1 hy2
  rw [hc] at hcd
  have HC := Lib.hid hcd
  have HY := Lib.hid hy
  have HW := Lib.hid hy1.1
  obtain ⟨hnm, hfn, hcl⟩ := could_1 hc ho
  have hcus := hy2.cu
  have hfw : findW V y.l.cu = none := by
    have := findW_p V y.l.cu
    rw [hfn] at this
    cases hq : findW V y.l.cu with
    | none => rfl
    | some c => rw [hq] at this; cases this
  have hlc : V.cus.length < 20 := by simpa [Vw.p] using hcl
  have hup : ∀ W, Ext w W → ∀ v, (Instr.mapUpdate 103 (.map (some V.mb)) (.string y.x.l.cu) v).run Try.prog W = .ok () (mapW 103 W V.mb (.string y.x.l.cu) v) ∧
      (MapAt 9 (mapW 103 W V.mb (.string y.x.l.cu) v) V.mb (cusM V.cus ++ [(.string y.x.l.cu, v)]) ∧ Turned W (mapW 103 W V.mb (.string y.x.l.cu) v) V.mb) := fun W e v => run_mapW ((h.map.ext e).store_new law9 Try.underlying103 (key9 _ hcus) (fun p hp => by
        obtain ⟨c, hc, rfl⟩ := List.mem_map.1 hp
        intro e2
        simp only [Value.string.injEq] at e2
        exact findW_none hfw c hc e2) (by simp only [cusM, List.length_map, maxLen]; omega))
  have HUP := Lib.hid hup
  have HO := Lib.hid ho
  have HOK := Lib.hid hy2
  clear hcd h hp hy hy1 hy2 hc hup hnm hfn hcl hfw hcus
  go_enter Try.func60, Try.ntmps60
  go_wp2_with (fail)
  (with_reducible refine HC.out.mono ?_); rintro e w1 ⟨rfl, he1⟩
  have hw1 := HY.out.ext he1
  obtain ⟨v0, v1, v2, v3⟩ := obj_cells4 hw1.blk
  obtain ⟨c0, c1, c2, c3, c4, c5, c6, c7, c8, c9⟩ := obj_cells10 (he1.block HW.out)
  have ho2 : (y.x.l.op : Int) = 1 := by have := HO.out; omega
  rw [ho2] at c0
  have H1 := Lib.hid hw1
  have hup := fun o1 o2 v => (HUP.out (((w1.alloc o1).alloc o2).drew) (he1.trans ((((Ext.refl w1).alloc o1).alloc o2).drew)) v).1
  clear v1 v2 v3 c2 c3 c4 c5 c6 c7 c9 hw1 ho2 ho
  replace c0 := c0 w1 (Ext.refl _)
  have hr0 := Ext.refl w1
  have hmm := @run_makeMap Try.prog
  have hmb : V.vb ≠ V.mb ∧ y.b ≠ V.mb := by
    have h1 := HY.out.nd
    have h2 := (HY.out.links y (by simp)).2.2.1
    unfold foot at h1 h2
    simp only [List.nodup_cons, List.mem_cons, List.mem_append, not_or] at h1 h2
    exact ⟨h1.1.1, h2.2.1⟩
  have e0 : ∀ W, ExtX V.mb w1 W → W.cell? ⟨V.vb, 0, none⟩ = some (.map (some V.mb)) := fun W e => e.cell (v0 w1 hr0) hmb.1
  have e1 : ∀ W, ExtX V.mb w1 W → W.cell? ⟨y.b, 1, none⟩ = some (.string y.x.l.cu) := fun W e => e.cell (c1 w1 hr0) hmb.2
  have e8 : ∀ W, ExtX V.mb w1 W → W.cell? ⟨y.b, 8, none⟩ = some (.int .u64 (y.x.l.tag : Int)) := fun W e => e.cell (c8 w1 hr0) hmb.2
  have hX := ExtX.refl V.mb w1
  have hturn : ∀ W v, Ext w1 W → ExtX V.mb w1 W → ExtX V.mb w1 (mapW 103 W V.mb (.string y.x.l.cu) v) := fun W v h q => q.turned (HUP.out W (he1.trans h) v).2.2
  have HT := Lib.hid hturn
  clear v0 c1 c8 hturn
  go_upto_region 5 with fail
  go_region_held3 (fun W => ExtX V.mb w1 W) (first | with_reducible assumption | exact ExtX.drew (by with_reducible assumption) | exact ExtX.alloc (by with_reducible assumption) _ | exact (ExtX.alloc (by with_reducible assumption) _).drew | exact HT.out _ _ (by repeat (first | exact Ext.refl _ | apply Ext.alloc | apply Ext.drew)) (by repeat (first | exact ExtX.refl _ _ | apply ExtX.alloc | apply ExtX.drew)))
    (first | fail)
  have hwa : Ext w1 (((w1.alloc (.map #[] 0)).alloc (.cells #[.string y.x.l.cu, .int .u64 (y.x.l.tag : Int), .slice none 0 0, .int .i64 0, .map (some w1.heap.size)] 135)).drew) := (((Ext.refl w1).alloc _).alloc _).drew
  obtain ⟨-, hb1, hb2, hsz⟩ := alloc2 (w := w1) (o := .map #[] 0) (p := .cells #[.string y.x.l.cu, .int .u64 (y.x.l.tag : Int), .slice none 0 0, .int .i64 0, .map (some w1.heap.size)] 135) rfl
  obtain ⟨-, hm2, ht2⟩ := HUP.out _ (he1.trans hwa) (ptr (w1.heap.size + 1))
  have hmlt : V.mb < w1.heap.size := H1.out.lt _ (by simp [foot])
  obtain ⟨c, hcq⟩ : ∃ c : Cw, c = ⟨w1.heap.size + 1, y.x.l.cu, y.x.l.tag, none, 0, [], 0, w1.heap.size, []⟩ := ⟨_, rfl⟩
  obtain ⟨V2, hV2⟩ : ∃ V2 : Vw, V2 = { V with cus := V.cus ++ [c] } := ⟨_, rfl⟩
  generalize hwb : World.drew _ = wb at *
  have hsb : wb.heap.size = w1.heap.size + 2 := by rw [← hwb]; exact hsz
  have hbb1 : wb.heap[w1.heap.size]? = some (.map #[] 0) := by rw [← hwb]; exact hb1
  have hbb2 : wb.heap[w1.heap.size + 1]? = some (.cells (ccells c) 135) := by rw [← hwb, hcq]; exact hb2
  clear hwb hb1 hb2 hsz
  generalize hw2 : mapW _ _ _ _ _ = w2 at *
  have hcb : c.cb = w1.heap.size + 1 := by rw [hcq]
  have h2 : VwAt w2 V2 (V2.chain ++ [y]) := by
    subst hV2
    refine H1.out.newc (c := c) (by rw [hcq]; exact hm2) ⟨?_, ?_, ?_, ?_, ?_, ?_⟩ (fun k q q2 => (ht2.block k q2).trans (Below.block hwa k q)) (by rw [ht2.size, hsb]; omega) ?_ ?_ ?_ ?_
    · rw [hcb, ht2.block _ (by omega)]; exact hbb2
    · rw [hcq]; exact World.ownsRow_nil _ _ _ _
    · rw [hcq]; simp
    · rw [hcq]
      exact (MapAt.made 142 w1).of_block (by rw [ht2.block _ (by omega), hbb1, heap_new])
    · rw [hcq]; exact HOK.out.cu
    · rw [hcq]; exact HOK.out.tag
    · rw [hcq]; simp [cfoot, ob]
    · rw [hcq]; simp [cfoot, ob]
    · rw [hcq]; simp
    · rw [hcq]; simp
  have hu2 : Upd (foot V) w w2 := Upd.turned ((he1.trans hwa).upd) ht2 (.inl (by simp [foot]))
  have hs2 : ∀ k ∈ foot V2, k ∈ foot V ∨ w.heap.size ≤ k := by
    rw [hV2, hcq]
    intro k q
    have hse := he1.size
    simp only [foot, List.flatMap_append, List.mem_cons, List.mem_append, List.flatMap_cons, List.flatMap_nil, cfoot, ob] at q ⊢
    simp at q
    rcases q with q | q | q | q | q | q
    · exact .inl (.inl q)
    · exact .inl (.inr (.inl q))
    · exact .inl (.inr (.inr (.inl (by simpa using q))))
    · exact .inl (.inr (.inr (.inr (by simpa [cfoot, ob] using q))))
    · right; omega
    · right; omega
  have HVB : Hid (V2.vb = V.vb) := by rw [hV2]; rfl
  have HCH : Hid (V2.chain = V.chain) := by rw [hV2]; rfl
  have HP : Hid ({ V2.p with chain := V2.p.chain ++ [y.l] } = putS V.p y.l) := by rw [Hid, hV2, hcq]; simp [putS, HO.out, Vw.p, Cw.p]
  have H2 := Lib.hid h2; have HU := Lib.hid hu2; have HS := Lib.hid hs2
  rename_i hheld
  clear hheld
  clear hV2 h2 hu2 hs2 hw2 hm2 ht2 hmlt hcq hsb hbb1 hbb2 hwa HUP hup hmm e0 e1 e8 hX HT c0 hmb
  obtain ⟨v0, v1, v2, v3⟩ := obj_cells4 H2.out.blk
  have vf := obj_free H2.out.blk w2 (Ext.refl _)
  replace v3 := v3 w2 (Ext.refl _)
  rw [HVB.out] at v3 vf
  have happ := app_ptr w2 104 104 Try.underlying104 V2.ca V2.cc V2.chain y H2.out.row (by rw [HCH.out]; exact hn)
  have HA := Lib.hid happ
  clear v0 v1 v2 happ
  go_wp2_with (at_builtin; refine wpList_app _ rfl _ _ 104 rfl _ HA.out ?_; rintro v' w3 ⟨ca, cc, rfl, hown, hg, hloc⟩; have hb3 := tail_blk H2.out hg; rw [HVB.out] at hb3; have v3 := (obj_cells4 hb3).2.2.2 w3 (Ext.refl _); have vf := obj_free hb3 w3 (Ext.refl _); clear hb3; have HOWN := Lib.hid hown; have HG := Lib.hid hg; have HLOC := Lib.hid hloc; clear hown hg hloc)
  go_ret
  rw [← HVB.out]
  have hpt := put_tail H2.out HU.out HS.out ca cc HOWN.out HG.out HLOC.out HCH.out HVB.out HP.out
  rw [show (V2.chain ++ [y]).length = V2.chain.length + 1 by simp] at hpt
  exact hpt
end Go.Proofs.Ytlahejakcgoheaa
end
section
/-
  Walk: put of a seal.
-/
set_option linter.unusedVariables false
set_option linter.unusedSimpArgs false
namespace Go.Proofs.Ytlahejakcgoheaa
open Go.RowKit
theorem info137 : (Try.prog.info? 137).map (fun i => (i.zero, i.size, i.bytes)) = some (some (.slice none 0 0), 1, 24) := by kernel_rfl
/-- 'append(v, u)' at a slice whose elements are one cell. -/
theorem app_one (w : World) (t ty e : TypeId) {i0 : TypeInfo} {z : Value} {bytes : Nat} (ht : Try.prog.underlying t = some (.slice e)) (hi : Try.prog.info? e = some i0) (hz0 : i0.zero = some z) (hz1 : i0.size = 1) (hz2 : i0.bytes = bytes) (hzs : z.cells.size = 1) (hby : bytes ≤ 1000)
    (a : Option Addr) (n c : Nat) (xs : List Value) (h : w.ownsRow 0 e 1 (.slice a n c) n xs) (g : Nat) (u : Value) (hu : u.oneCell' = true) (hc : w.cell? ⟨g, 0, none⟩ = some u) (hn : n ≤ 1000000) :
    ∃ v' w', (Builtin.append_ #[t, t] ty #[.slice a n c, .slice (some ⟨g, 0, none⟩) 1 1]).run Try.prog w = .ok v' w' ∧
      (∃ a' c', v' = .slice a' (n + 1) c' ∧ w'.ownsRow 0 e 1 (.slice a' (n + 1) c') (n + 1) (xs ++ [u]) ∧ w.grownBy w' (a.map (·.block)) ∧ ∀ k ∈ ob a', k ∈ ob a ∨ w.heap.size ≤ k) := by
  obtain ⟨v', w', r1, r2, r3, r4, r5⟩ := run_append_own_at (P := Try.prog) w 0 t ty e i0 z 1 bytes ht hi hz0 hz1 hz2 hzs (by omega) _ n xs h
    ⟨g, 0, none⟩ 1 1 [u] rfl (fun j u' hj => by
      have : j = 0 := by
        rcases Nat.lt_or_ge j 1 with h | h
        · omega
        · rw [List.getElem?_eq_none (by simpa using h)] at hj; cases hj
      subst this
      simp at hj; subst hj
      rw [Addr.add_lit]; exact hc) (by simpa using hu) (by unfold maxLen; omega) (Nat.le_trans (Nat.mul_le_mul (show n + 1 ≤ 1000001 by omega) hby) (by omega)) (Nat.zero_le _)
  obtain ⟨a', c', rfl⟩ := own_slice r2
  refine ⟨_, w', r1, a', c', rfl, r2, ?_, ?_⟩
  · rw [← ob_of_own a n c]; exact r3
  · intro k hk
    rw [ob_of_own, ob_of_own] at r5
    simp only [ob, Option.mem_toList] at hk ⊢
    rcases r5 with q | q
    · rw [q] at hk; exact .inl hk
    · rw [q] at hk
      simp at hk
      exact .inr (Nat.le_of_eq hk)
/-- What is known of a link that fits and is no customer's and no day's. -/
theorem could_c {S : PV} {l : Lk} (h : couldB S l = true) (h1 : ¬ l.op = 1) (h2 : ¬ l.op = 2) : ∃ c, S.find l.cu = some c := by
  cases hf : S.find l.cu with
  | none => rw [couldB_n S l h1 h2 hf] at h; cases h
  | some c => exact ⟨c, rfl⟩
theorem could_w {V : Vw} {l : Lk} (h : couldB V.p l = true) (h1 : ¬ l.op = 1) (h2 : ¬ l.op = 2) : ∃ c, findW V l.cu = some c := by
  obtain ⟨c, hc⟩ := could_c h h1 h2
  rw [findW_p] at hc
  cases hf : findW V l.cu with
  | none => rw [hf] at hc; cases hc
  | some c => exact ⟨c, rfl⟩
theorem map_put {cs : List Cw} {l1 l2 : List Cw} {c c' : Cw} {l : Lk} (h : cs = l1 ++ c :: l2) (hn : c.name = l.cu) (hd : ((cs.map Cw.p).map PC.name).Nodup) (hp : c'.p = putC l c.p) :
    (cs.map Cw.p).map (fun d => if d.name = l.cu then putC l d else d) = (l1 ++ c' :: l2).map Cw.p := by
  subst h
  simp only [List.map_append, List.map_cons, List.map_map] at hd ⊢
  rw [List.nodup_append] at hd
  obtain ⟨d1, d2, d3⟩ := hd
  rw [List.nodup_cons] at d2
  have e : c.p.name = l.cu := hn
  have ha : ∀ d ∈ l1, ¬ d.p.name = l.cu := fun d hd q => d3 (d.p.name) (List.mem_map.2 ⟨d, hd, rfl⟩) (c.p.name) (by simp) (q.trans e.symm)
  have hb : ∀ d ∈ l2, ¬ d.p.name = l.cu := fun d hd q => d2.1 (by rw [List.mem_map]; exact ⟨d, hd, (q.trans e.symm)⟩)
  congr 1
  · exact List.map_congr_left fun d hd => by simp [ha d hd]
  · congr 1
    · simp [e, hp]
    · exact List.map_congr_left fun d hd => by simp [hb d hd]
theorem putS_c {S : PV} {l : Lk} (h1 : ¬ l.op = 1) (h2 : ¬ l.op = 2) : putS S l = { S with cus := S.cus.map fun c => if c.name = l.cu then putC l c else c, chain := S.chain ++ [l] } := by
  rw [putS, if_neg h1, if_neg h2]
/-- Behind a customer's turn: all that the chain's end asks. -/
theorem cust_end {w w1 w2 : World} {V : Vw} {y : Cl} {l1 l2 : List Cw} {c c' : Cw} (h1 : VwAt w1 V (V.chain ++ [y])) (he : Ext w w1) (hp : PVOk V.p) (ho1 : ¬ y.l.op = 1) (ho2 : ¬ y.l.op = 2) (hV : V.cus = l1 ++ c :: l2) (hcn : c.name = y.l.cu) (hn : c'.name = c.name) (hcb : c'.cb = c.cb)
    (hc : CwAt w2 c') (hu : Upd (cfoot c) w1 w2) (hf : ∀ k ∈ cfoot c', k ∈ cfoot c ∨ w1.heap.size ≤ k) (hnd : (cfoot c').Nodup) (hr : ∀ r ∈ c'.recs, ∀ z ∈ r.ls, z ∈ V.chain ++ [y]) (hsh : ∀ q ∈ c'.shares, q.2 ∈ V.chain ++ [y]) (hpc : c'.p = putC y.l c.p) :
    ∃ V2 : Vw, VwAt w2 V2 (V2.chain ++ [y]) ∧ Upd (foot V) w w2 ∧ (∀ k ∈ foot V2, k ∈ foot V ∨ w.heap.size ≤ k) ∧ V2.chain = V.chain ∧ V2.vb = V.vb ∧ ({ V2.p with chain := V2.p.chain ++ [y.l] } = putS V.p y.l) := by
  have hsub : ∀ k ∈ cfoot c, k ∈ foot V := fun k q => by rw [foot_split hV]; simp [q]
  refine ⟨{ V with cus := l1 ++ c' :: l2 }, h1.cust hV hn hcb hc hu.block hu.size hf hnd hr hsh, ?_, ?_, rfl, rfl, ?_⟩
  · have := (he.upd (F := foot V)).trans (F' := cfoot c) hu (fun x q => .inl (hsub x q))
    exact this
  · intro k q
    rw [foot_split (V := { V with cus := l1 ++ c' :: l2 }) rfl] at q
    rw [foot_split hV]
    simp only [List.mem_append] at q ⊢
    have hz := he.size
    rcases q with (q | q) | q | q
    · exact .inl (.inl (.inl q))
    · exact .inl (.inl (.inr q))
    · rcases hf k q with q | q
      · exact .inl (.inr (.inl q))
      · right; omega
    · exact .inl (.inr (.inr q))
  · rw [putS_c ho1 ho2]
    simp only [Vw.p]
    rw [map_put hV hcn hp.nd hpc]
theorem cust_nodup {w : World} {V : Vw} {L : List Cl} {c : Cw} (h : VwAt w V L) (hc : c ∈ V.cus) : (cfoot c).Nodup := by
  obtain ⟨l1, l2, hV⟩ := List.append_of_mem hc
  have := h.nd
  rw [foot_split hV, List.nodup_append] at this
  exact (List.nodup_append.1 this.2.1).1
theorem cust_apart {w : World} {V : Vw} {L : List Cl} {c : Cw} (h : VwAt w V L) (hc : c ∈ V.cus) : c.cb ∉ ob c.ra := by
  have := cust_nodup h hc
  unfold cfoot at this
  simp only [List.nodup_cons, List.mem_cons, List.mem_append, not_or] at this
  exact this.1.2.1
theorem own_mono0 {w : World} {B e sz : Nat} {v : Value} {n : Nat} {xs : List Value} (h : w.ownsRow B e sz v n xs) : w.ownsRow 0 e sz v n xs := by
  obtain ⟨h1, h2⟩ := h
  refine ⟨h1, ?_⟩
  rcases h2 with h2 | ⟨g, cap, cur, hv, hg, r⟩
  · exact .inl h2
  · exact .inr ⟨g, cap, cur, hv, Nat.zero_le _, r⟩
theorem mem_split {c : Cw} {cs : List Cw} (h : c ∈ cs) : ∃ l1 l2, cs = l1 ++ c :: l2 := List.append_of_mem h
set_option maxRecDepth 100000 in
set_option maxHeartbeats 8000000 in
theorem put_3 (V : Vw) (y : Cl) (w : World) (h : VwAt w V V.chain) (hp : PVOk V.p) (hy : VwAt w V (V.chain ++ [y])) (hn : V.chain.length ≤ 1000000) (hc : couldB V.p y.l = true) (ho : y.x.l.op = 3) : Calls Try.prog 60 #[ptr V.vb, ptr y.b] w (RetPut V y w) := by
  obtain ⟨hy1, hy2, -⟩ := hy.links y (by simp)
  have hcd := could_any V V.chain y w h hp hy1 hy2
  rw [hc] at hcd
  have HC := Lib.hid hcd
  have HY := Lib.hid hy
  have HW := Lib.hid hy1.1
  obtain ⟨c, hfw⟩ := could_w hc (show ¬ y.x.l.op = 1 by omega) (show ¬ y.x.l.op = 2 by omega)
  obtain ⟨hcm, hcn⟩ := findW_mem hfw
  have hlk := look103_yes h hy2.cu hfw
  have HLK := Lib.hid hlk; have HCM := Lib.hid hcm; have HCN := Lib.hid hcn
  have hrl : c.recs.length ≤ 30 := by have := (hp.cs c.p (List.mem_map.2 ⟨c, hcm, rfl⟩)).rl; simpa [Cw.p] using this
  have HO := Lib.hid ho; have HPP := Lib.hid hp
  clear hcd h hp hy hy1 hy2 hc hfw hcm hcn hlk
  go_enter Try.func60, Try.ntmps60
  go_wp2_with (fail)
  (with_reducible refine HC.out.mono ?_); rintro e w1 ⟨rfl, he1⟩
  have hw1 := HY.out.ext he1
  obtain ⟨v0, v1, v2, v3⟩ := obj_cells4 hw1.blk
  obtain ⟨c0, c1, c2, c3, c4, c5, c6, c7, c8, c9⟩ := obj_cells10 (he1.block HW.out)
  have ho2 : (y.x.l.op : Int) = 3 := by have := HO.out; omega
  rw [ho2] at c0
  have hlk := fun W (e : Ext w1 W) => HLK.out W (he1.trans e) false
  simp only [Bool.false_eq_true, if_false] at hlk
  clear v1 v2 v3 c2 c3 c4 c5 c6 c7 c8 c9 hw1 ho2 ho
  replace c0 := c0 w1 (Ext.refl _)
  have hr0 := Ext.refl w1
  go_wp2_with (fail)
  refine wp_region_ext (by kernel_rfl) (by kernel_rfl) hr0 ?_
  repeat (first | go_big_quiet_step ((fail)) | quiet_step ((fail)))
  refine wpQuiet_nil ?_
  rintro _ ⟨nq, rfl⟩
  have he2 := he1.trans nq.ok
  obtain ⟨w2, hw2⟩ : ∃ w2, w2 = nq.val := ⟨_, rfl⟩
  rw [← hw2] at he2 ⊢
  have H1 := Lib.hid (HY.out.ext he2)
  have hcw := H1.out.cus c HCM.out
  obtain ⟨g0, g1, g2, g3, g4⟩ := obj_cells5 hcw.blk
  replace g2 := g2 w2 (Ext.refl _)
  have gf := obj_free hcw.blk w2 (Ext.refl _)
  have HCW := Lib.hid hcw
  clear v0 c0 c1 hr0 hlk hw2 nq g0 g1 g3 g4 hcw
  obtain ⟨i0, hi, hz0, hz1, hz2⟩ := info_parts info137
  obtain ⟨-, b1, b2, bsz⟩ := alloc2 (w := w2) (o := .cells #[ptr y.b] 74) (p := .cells #[.slice (some ⟨w2.heap.size, 0, none⟩) 1 1] 137) rfl
  have hea : Ext w2 ((w2.alloc (.cells #[ptr y.b] 74)).alloc (.cells #[.slice (some ⟨w2.heap.size, 0, none⟩) 1 1] 137)) := ((Ext.refl w2).alloc _).alloc _
  have happ := app_one ((w2.alloc (.cells #[ptr y.b] 74)).alloc (.cells #[.slice (some ⟨w2.heap.size, 0, none⟩) 1 1] 137)) 132 132 137 Try.underlying132 hi hz0 hz1 hz2 rfl (by omega) c.ra c.recs.length c.rc (rowR c.recs) ((HCW.out.row.alloc _).alloc _)
    (w2.heap.size + 1) (.slice (some ⟨w2.heap.size, 0, none⟩) 1 1) rfl (obj_cells1 b2 _ (Ext.refl _)) (by omega)
  have HA := Lib.hid happ; have HB1 := Lib.hid b1; have HSZ := Lib.hid bsz; have HEA := Lib.hid hea
  have HCB : Hid (c.cb ∉ ob c.ra ∧ c.cb < w2.heap.size) := ⟨cust_apart H1.out HCM.out, HCW.out.lt _ (by simp [cfoot])⟩
  clear happ b1 b2 bsz hea hi hz0 hz1 hz2
  go_upto_region 19 with (at_builtin; refine wpList_app _ rfl _ _ 132 rfl _ HA.out ?_; rintro v' w3 ⟨ca, cc, rfl, hown, hg, hloc⟩; have hb3 := (hg.block c.cb (Nat.lt_of_lt_of_le HCB.out.2 HEA.out.size) (fun e => HCB.out.1 (by simp [ob, ← e]))).trans ((Below.block HEA.out _ HCB.out.2).trans HCW.out.blk); have g2 := (obj_cells5 hb3).2.2.1 w3 (Ext.refl _); have gf := obj_free hb3 w3 (Ext.refl _); have HB3 := Lib.hid hb3; clear hb3; have HOWN := Lib.hid hown; have HG := Lib.hid hg; have HLOC := Lib.hid hloc; clear hown hg hloc)
  obtain ⟨c', hc'⟩ : ∃ c' : Cw, c' = { c with ra := ca, rc := cc, recs := c.recs ++ [⟨some ⟨w2.heap.size, 0, none⟩, 1, [y]⟩] } := ⟨_, rfl⟩
  have hcw := HCW.out
  have hsz := HSZ.out
  have hg := HG.out
  have hea := HEA.out
  have hcnd := cust_nodup H1.out HCM.out
  have hcn2 := hcnd
  unfold cfoot at hcn2
  simp only [List.nodup_cons, List.mem_cons, List.mem_append, not_or, List.nodup_append, List.mem_flatMap, not_exists, not_and] at hcn2
  obtain ⟨⟨n1, n2, n3⟩, ⟨n4, n5⟩, n6, n7, n8⟩ := hcn2
  have hnk : ∀ k, k < w2.heap.size → k ∉ ob c.ra → k ≠ c.cb → (w3.setCell ⟨c.cb, 2, none⟩ (.slice ca (c.recs.length + 1) cc)).heap[k]? = w2.heap[k]? := fun k q q2 q3 => by
    rw [heap_set_ne _ q3, hg.block k (by omega) (fun e => q2 (by simp [ob, ← e]))]
    exact Below.block hea k q
  have hsz3 := hg.size
  have hu : Upd (cfoot c) w2 (w3.setCell ⟨c.cb, 2, none⟩ (.slice ca (c.recs.length + 1) cc)) :=
    Upd.set (Upd.grown (hea.upd) hg fun k q => .inl (by simp [cfoot, ob, q])) (.inl (by simp [cfoot])) _
  have hcat : CwAt (w3.setCell ⟨c.cb, 2, none⟩ (.slice ca (c.recs.length + 1) cc)) c' := by
    rw [hc']
    refine ⟨?_, ?_, ?_, ?_, hcw.nm, hcw.pr⟩
    · have := block_set HB3.out 2 (.slice ca (c.recs.length + 1) cc)
      rw [this]; simp [ccells]
    · refine own_of_block (w := w3) ?_ fun k q => heap_set_ne _ fun e => ?_
      · have e1 : rowR (c.recs ++ [⟨some ⟨w2.heap.size, 0, none⟩, 1, [y]⟩]) = rowR c.recs ++ [.slice (some ⟨w2.heap.size, 0, none⟩) 1 1] := by simp [rowR, Rv.val]
        have e2 : (c.recs ++ [(⟨some ⟨w2.heap.size, 0, none⟩, 1, [y]⟩ : Rv)]).length = c.recs.length + 1 := by simp
        show w3.ownsRow 0 137 1 (.slice ca (c.recs ++ [_]).length cc) (c.recs ++ [_]).length (rowR (c.recs ++ [_]))
        rw [e1, e2]; exact HOWN.out
      · have q2 := own_slice_block _ _ _ k q
        subst e
        rcases HLOC.out _ q2 with q3 | q3
        · exact HCB.out.1 q3
        · have := HCB.out.2; omega
    · intro r hr
      rcases List.mem_append.1 hr with hr | hr
      · refine own_of_block (hcw.recs r hr) fun k q => ?_
        have q2 := own_slice_block _ _ _ k q
        exact hnk k (own_lt (hcw.recs r hr) k q2) (fun q3 => n8 k q3 k ⟨r, hr, q2⟩ rfl) (fun e => n3 r hr (e ▸ q2))
      · simp at hr
        rw [hr]
        have hl := ownsRow_lit1 w2 (ptr y.b) 74
        refine own_of_block (w := w2.alloc (.cells #[ptr y.b] 74)) (h := ?_) fun k q => ?_
        · have : (Rv.val ⟨some ⟨w2.heap.size, 0, none⟩, 1, [y]⟩) = .slice (some ⟨w2.heap.size, 0, none⟩) 1 1 := rfl
          rw [this]; exact own_mono0 hl
        · simp [Rv.val, Value.ownBlock] at q
          subst q
          rw [heap_set_ne _ (by have := HCB.out.2; omega), hg.block _ (by omega) (fun e => by
            have : w2.heap.size ∈ ob c.ra := by simp [ob, ← e]
            have := own_lt hcw.row _ this
            omega), HB1.out, heap_new]
    · refine hcw.map.of_block (hnk c.sb (hcw.lt _ (by simp [cfoot])) n4 (fun e => n1 e.symm))
  have hsb : c'.cb = c.cb := by rw [hc']
  obtain ⟨l1, l2, hV⟩ := mem_split HCM.out
  have hend := cust_end (c' := c') H1.out he2 HPP.out (by have := HO.out; show ¬ y.x.l.op = 1; omega) (by have := HO.out; show ¬ y.x.l.op = 2; omega) hV HCN.out (by rw [hc']) hsb hcat hu (fun k q => by
      rw [hc'] at q
      simp only [cfoot, List.mem_cons, List.mem_append, List.flatMap_append, List.flatMap_cons, List.flatMap_nil, List.append_nil] at q ⊢
      rcases q with q | q | q | q | q
      · exact .inl (.inl q)
      · exact .inl (.inr (.inl q))
      · rcases HLOC.out k q with q | q
        · exact .inl (.inr (.inr (.inl q)))
        · right; omega
      · exact .inl (.inr (.inr (.inr q)))
      · simp [ob] at q; right; omega) (by
      rw [hc']
      have e : cfoot { c with ra := ca, rc := cc, recs := c.recs ++ [⟨some ⟨w2.heap.size, 0, none⟩, 1, [y]⟩] } = [c.cb, c.sb] ++ (ob ca ++ ((c.recs.flatMap fun r => ob r.a) ++ [w2.heap.size])) := by simp [cfoot, ob]
      rw [e]
      have hlt := hcw.lt
      have h1 : ([c.cb, c.sb] ++ (ob ca ++ (c.recs.flatMap fun r => ob r.a))).Nodup :=
        nodup_swap (X := ob c.ra) (n := w2.heap.size) (by have := hcnd; unfold cfoot at this; simpa using this) (by cases ca <;> simp [ob]) (fun x q => by
          rcases HLOC.out x q with q | q
          · exact .inl q
          · right; omega) (fun a q => hlt a (by unfold cfoot; simpa using q))
      rw [← List.append_assoc (ob ca), ← List.append_assoc, List.nodup_append]
      refine ⟨h1, by simp, fun a ha b hb => ?_⟩
      simp at hb; subst hb
      rcases List.mem_append.1 ha with ha | ha
      · have := hlt a (by simp [cfoot] at ha ⊢; rcases ha with ha | ha <;> simp [ha])
        omega
      · rcases List.mem_append.1 ha with ha | ha
        · rcases HLOC.out a ha with q | q
          · have := hlt a (by simp [cfoot, q]); omega
          · omega
        · have := hlt a (by simp only [cfoot, List.mem_cons, List.mem_append]; exact .inr (.inr (.inr ha)))
          omega) (by
      rw [hc']
      intro r hr z hz
      rcases List.mem_append.1 hr with hr | hr
      · exact H1.out.recs c HCM.out r hr z hz
      · simp at hr; subst hr; simp at hz; simp [hz]) (by rw [hc']; exact H1.out.shares c HCM.out) (by
      rw [hc']; simp [putC, Cw.p, Rv.p, HO.out])
  obtain ⟨V2, h2, hu2, hs2, hch, hvb, hpp⟩ := hend
  have H2 := Lib.hid h2; have HU := Lib.hid hu2; have HS := Lib.hid hs2; have HCH := Lib.hid hch; have HVB := Lib.hid hvb; have HP := Lib.hid hpp
  clear h2 hu2 hs2 hch hvb hpp hcat hu hnk hsz hg hea hcnd n1 n2 n3 n4 n5 n6 n7 n8 hcw hc' hsb hV g2 gf
  generalize World.setCell w3 _ _ = w4 at *
  clear HB3 HOWN HG HLOC HA HB1 HSZ HEA hsz3
  obtain ⟨v0, v1, v2, v3⟩ := obj_cells4 H2.out.blk
  have vf := obj_free H2.out.blk w4 (Ext.refl _)
  replace v3 := v3 w4 (Ext.refl _)
  rw [HVB.out] at v3 vf
  have happ := app_ptr w4 104 104 Try.underlying104 V2.ca V2.cc V2.chain y H2.out.row (by rw [HCH.out]; exact hn)
  have HA := Lib.hid happ
  clear v0 v1 v2 happ
  go_wp2_with (at_builtin; refine wpList_app _ rfl _ _ 104 rfl _ HA.out ?_; rintro v' w5 ⟨ca', cc', rfl, hown, hg, hloc⟩; have hb3 := tail_blk H2.out hg; rw [HVB.out] at hb3; have v3 := (obj_cells4 hb3).2.2.2 w5 (Ext.refl _); have vf := obj_free hb3 w5 (Ext.refl _); clear hb3; have HOWN := Lib.hid hown; have HG := Lib.hid hg; have HLOC := Lib.hid hloc; clear hown hg hloc)
  go_ret
  rw [← HVB.out]
  have hpt := put_tail H2.out HU.out HS.out ca' cc' HOWN.out HG.out HLOC.out HCH.out HVB.out HP.out
  rw [show (V2.chain ++ [y]).length = V2.chain.length + 1 by simp] at hpt
  exact hpt
end Go.Proofs.Ytlahejakcgoheaa
end
section
/-
  Walk: put of a version more.
-/
set_option linter.unusedVariables false
set_option linter.unusedSimpArgs false
namespace Go.Proofs.Ytlahejakcgoheaa
open Go.RowKit
theorem could_plain {S : PV} {l : Lk} (h : couldB S l = true) : plainB l = true := by
  unfold couldB at h
  by_cases q : plainB l = true
  · exact q
  · rw [if_neg q] at h; cases h
theorem could_body {S : PV} {l : Lk} {c : PC} (h : couldB S l = true) (h1 : ¬ l.op = 1) (h2 : ¬ l.op = 2) (hf : S.find l.cu = some c) : l.da = S.day ∧ l.bo.length ≠ 0 ∧ l.bo.length ≤ 2016 ∧ l.bo.length % 32 = 0 := by
  refine Classical.byContradiction fun hn => ?_
  rw [couldB_bad S l c h1 h2 hf hn] at h; cases h
theorem could_rec {S : PV} {l : Lk} {c : PC} (h : couldB S l = true) (h1 : ¬ l.op = 1) (h2 : ¬ l.op = 2) (h3 : ¬ l.op = 3) (hf : S.find l.cu = some c) : (findR c l.nu S.day).2 = 0 := by
  refine Classical.byContradiction fun hn => ?_
  rw [couldB_e S l c h1 h2 h3 hf hn] at h; cases h
theorem findR_ok {c : PC} {n d : Int} (h : (findR c n d).2 = 0) : 1 ≤ n ∧ n ≤ c.recs.length ∧ (findR c n d).1 = c.recs.getD (n - 1).toNat [] ∧ ¬ untilR (c.recs.getD (n - 1).toNat []) < d := by
  unfold findR at h ⊢
  split at h
  · cases h
  · rename_i q
    split at h
    · cases h
    · rename_i q2
      rw [if_neg q, if_neg q2]
      exact ⟨by omega, by omega, rfl, q2⟩
theorem could_4 {S : PV} {l : Lk} {c : PC} (h : couldB S l = true) (h4 : l.op = 4) (hf : S.find l.cu = some c) : l.ve = ((findR c l.nu S.day).1.length : Int) + 1 ∧ l.ve ≤ 20 := by
  rw [couldB_4 S l c (could_plain h) h4 hf (could_body h (by omega) (by omega) hf) (could_rec h (by omega) (by omega) (by omega) hf)] at h
  simpa using h
set_option maxRecDepth 100000 in
set_option maxHeartbeats 8000000 in
theorem put_4 (V : Vw) (y : Cl) (w : World) (h : VwAt w V V.chain) (hp : PVOk V.p) (hy : VwAt w V (V.chain ++ [y])) (hn : V.chain.length ≤ 1000000) (hc : couldB V.p y.l = true) (ho : y.x.l.op = 4) : Calls Try.prog 60 #[ptr V.vb, ptr y.b] w (RetPut V y w) := by
  obtain ⟨hy1, hy2, -⟩ := hy.links y (by simp)
  have hcd := could_any V V.chain y w h hp hy1 hy2
  rw [hc] at hcd
  have HC := Lib.hid hcd
  have HY := Lib.hid hy
  have HW := Lib.hid hy1.1
  obtain ⟨c, hfw⟩ := could_w hc (show ¬ y.x.l.op = 1 by omega) (show ¬ y.x.l.op = 2 by omega)
  obtain ⟨hcm, hcn⟩ := findW_mem hfw
  have hfp : V.p.find y.l.cu = some c.p := by rw [findW_p, hfw]; rfl
  obtain ⟨q1, q2, q3, -⟩ := findR_ok (could_rec hc (show ¬ y.x.l.op = 1 by omega) (show ¬ y.x.l.op = 2 by omega) (show ¬ y.x.l.op = 3 by omega) hfp)
  rw [show c.p.recs.length = c.recs.length from List.length_map ..] at q2
  obtain ⟨i, hi⟩ : ∃ i : Nat, y.x.l.nu = (i : Int) + 1 := ⟨(y.x.l.nu - 1).toNat, by have : y.x.l.nu = y.l.nu := rfl; omega⟩
  have hil : i < c.recs.length := by have : y.x.l.nu = y.l.nu := rfl; omega
  have hlk := look103_yes h hy2.cu hfw
  have HLK := Lib.hid hlk; have HCM := Lib.hid hcm; have HCN := Lib.hid hcn
  have hpc := hp.cs c.p (List.mem_map.2 ⟨c, hcm, rfl⟩)
  have hrl : c.recs.length ≤ 30 := by have := hpc.rl; simpa [Cw.p] using this
  have hr20 : (c.recs[i]).ls.length ≤ 20 := by
    have := (hpc.rr (c.recs[i]).p (List.mem_map.2 ⟨_, List.getElem_mem hil, rfl⟩)).2
    simpa [Rv.p] using this
  have HO := Lib.hid ho; have HPP := Lib.hid hp; have HI := Lib.hid hi
  obtain ⟨r, hr⟩ : ∃ r, r = c.recs[i] := ⟨_, rfl⟩
  rw [← hr] at hr20
  have HR := Lib.hid hr
  clear hcd h hp hy hy1 hy2 hc hfw hcm hcn hlk hfp q1 q2 q3 hpc hr
  go_enter Try.func60, Try.ntmps60
  go_wp2_with (fail)
  (with_reducible refine HC.out.mono ?_); rintro e w1 ⟨rfl, he1⟩
  have hw1 := HY.out.ext he1
  obtain ⟨v0, v1, v2, v3⟩ := obj_cells4 hw1.blk
  obtain ⟨c0, c1, c2, c3, c4, c5, c6, c7, c8, c9⟩ := obj_cells10 (he1.block HW.out)
  have ho2 : (y.x.l.op : Int) = 4 := by have := HO.out; omega
  rw [ho2] at c0
  rw [hi] at c3
  have hlk := fun W (e : Ext w1 W) => HLK.out W (he1.trans e) false
  simp only [Bool.false_eq_true, if_false] at hlk
  obtain ⟨g0, g1, g2, g3, g4⟩ := obj_cells5 (hw1.cus c HCM.out).blk
  obtain ⟨g, v, hg, hv, hcg⟩ := own_at (hw1.cus c HCM.out).row i hil
  have hvr : v = r.val := by
    have : (rowR c.recs)[i]? = some r.val := by simp [rowR, hil, HR.out]
    rw [this] at hv; simpa using hv.symm
  subst hvr
  rw [hg] at g2
  have HG0 := Lib.hid hg
  clear v1 v2 v3 c2 c4 c5 c6 c7 c8 c9 hw1 ho2 ho g0 g1 g3 g4 hv hg hi
  replace c0 := c0 w1 (Ext.refl _)
  have hr0 := Ext.refl w1
  have hi0 : (0 : Int) ≤ (i : Int) := by omega
  have hi1 : (i : Int) < (c.recs.length : Int) := by omega
  go_wp2_with (fail)
  refine wp_region_ext (by kernel_rfl) (by kernel_rfl) hr0 ?_
  repeat (first | go_big_quiet_step ((fail)) | quiet_step ((fail)))
  refine wpQuiet_nil ?_
  rintro _ ⟨nq, rfl⟩
  have he2 := he1.trans nq.ok
  replace hcg := hcg nq.val nq.ok
  obtain ⟨w2, hw2⟩ : ∃ w2, w2 = nq.val := ⟨_, rfl⟩
  rw [← hw2] at he2 hcg ⊢
  have H1 := Lib.hid (HY.out.ext he2)
  have hcw := H1.out.cus c HCM.out
  have HCW := Lib.hid hcw
  have hrow := hcw.row
  rw [HG0.out] at hrow
  have gf := hrow.frozenAt i
  clear v0 c0 c1 c3 hr0 hlk hw2 nq hcw hrow g2
  unfold Rv.val at hcg
  have hrm : r ∈ c.recs := by rw [HR.out]; exact List.getElem_mem hil
  have HRM := Lib.hid hrm
  have hra : ∀ k ∈ ob c.ra, k = g := by rw [HG0.out]; simp [ob]
  have hcnd := cust_nodup H1.out HCM.out
  have hlt := HCW.out.lt
  have hgl : g < w2.heap.size := hlt g (by simp [cfoot, HG0.out, ob])
  have hcbl : c.cb < w2.heap.size := hlt _ (by simp [cfoot])
  have hnn : c.cb ≠ g ∧ c.cb ∉ ob r.a ∧ g ∉ ob r.a ∧ c.sb ≠ g ∧ c.sb ∉ ob r.a ∧ c.sb ≠ c.cb := by
    have hcn2 := hcnd
    unfold cfoot at hcn2
    simp only [List.nodup_cons, List.mem_cons, List.mem_append, not_or, List.nodup_append, List.mem_flatMap, not_exists, not_and] at hcn2
    obtain ⟨⟨n1, n2, n3⟩, ⟨n4, n5⟩, n6, n7, n8⟩ := hcn2
    have hg0 : g ∈ ob c.ra := by rw [HG0.out]; simp [ob]
    exact ⟨fun e => n2 (e ▸ hg0), n3 r hrm, fun q => n8 g hg0 g ⟨r, hrm, q⟩ rfl, fun e => n4 (e ▸ hg0), n5 r hrm, fun e => n1 e.symm⟩
  have happ := app_ptr w2 137 137 Try.underlying137 r.a r.c r.ls y (HCW.out.recs r hrm) (by omega)
  have HA := Lib.hid happ; have HNN := Lib.hid hnn; have HGL := Lib.hid hgl; have HLT := Lib.hid hlt; have HCND := Lib.hid hcnd; have HRA := Lib.hid hra
  clear happ hnn hgl hlt hcnd hra hrm hcbl
  go_upto_region 19 with (at_builtin; refine wpList_app _ rfl _ _ 137 rfl _ HA.out ?_; rintro v' w3 ⟨ca, cc, rfl, hown, hg, hloc⟩; have hb3 : w3.heap[g]? = w2.heap[g]? := (hg.block g (by have := HGL.out; simp; omega) (fun e => HNN.out.2.2.1 (by simp [ob, ← e]))).trans (heap_old _ _ _ HGL.out); have hcg := (World.cell?_of_block (a := ⟨g, i, none⟩) hb3).trans hcg; have gf := (World.frozen?_of_block (a := ⟨g, i, none⟩) hb3).trans gf; have HB3 := Lib.hid hb3; clear hb3; have HOWN := Lib.hid hown; have HG := Lib.hid hg; have HLOC := Lib.hid hloc; clear hown hg hloc)
  obtain ⟨r1, r2, hrs, hr1⟩ : ∃ r1 r2, c.recs = r1 ++ r :: r2 ∧ r1.length = i := by
    refine ⟨c.recs.take i, c.recs.drop (i + 1), ?_, by simp; omega⟩
    rw [HR.out, ← List.drop_eq_getElem_cons hil, List.take_append_drop]
  obtain ⟨r', hr'⟩ : ∃ r' : Rv, r' = ⟨ca, cc, r.ls ++ [y]⟩ := ⟨_, rfl⟩
  have hset : c.recs.set i r' = r1 ++ r' :: r2 := by rw [hrs, List.set_append_right _ _ (by omega)]; simp [hr1]
  obtain ⟨c', hc'⟩ : ∃ c' : Cw, c' = { c with recs := r1 ++ r' :: r2 } := ⟨_, rfl⟩
  have hcw := HCW.out
  have hg := HG.out
  have hlt := HLT.out
  obtain ⟨m1, m2, m3, m4, m5, m6⟩ := HNN.out
  have hgl := HGL.out
  have hsz3 : w2.heap.size ≤ w3.heap.size := by have := hg.size; simp at this; omega
  have hv' : Rv.val r' = .slice ca (r.ls.length + 1) cc := by rw [hr']; simp [Rv.val]
  rw [← hv']
  have hnk : ∀ k, k < w2.heap.size → k ∉ ob r.a → k ≠ g → (w3.setCell ⟨g, i, none⟩ r'.val).heap[k]? = w2.heap[k]? := fun k q q2 q3 => by
    rw [heap_set_ne _ q3, hg.block k (by simp; omega) (fun e => q2 (by simp [ob, ← e])), heap_old _ _ _ q]
  have hga : g ∈ ob c.ra := by rw [HG0.out]; simp [ob]
  have hu : Upd (cfoot c) w2 (w3.setCell ⟨g, i, none⟩ r'.val) :=
    Upd.set (Upd.grown ((Upd.refl _ w2).alloc _) hg fun k q => .inl (by
      simp only [cfoot, List.mem_cons, List.mem_append, List.mem_flatMap]
      exact .inr (.inr (.inr ⟨r, HRM.out, by simp [ob, q]⟩)))) (.inl (by simp [cfoot, hga])) _
  have hcnd := HCND.out
  have hfe : cfoot c = ([c.cb, c.sb] ++ ob c.ra ++ r1.flatMap fun r => ob r.a) ++ (ob r.a ++ r2.flatMap fun r => ob r.a) := by
    unfold cfoot; rw [hrs]; simp [List.append_assoc]
  have hfe' : cfoot c' = ([c.cb, c.sb] ++ ob c.ra ++ r1.flatMap fun r => ob r.a) ++ (ob r'.a ++ r2.flatMap fun r => ob r.a) := by
    rw [hc']; unfold cfoot; simp [List.append_assoc]
  have hloc' : ∀ k ∈ ob r'.a, k ∈ ob r.a ∨ w2.heap.size ≤ k := by rw [hr']; exact HLOC.out
  have hoth : ∀ z, z ∈ r1 ∨ z ∈ r2 → ∀ k ∈ ob z.a, k ∉ ob r.a ∧ k ≠ g := fun z hz k hk => by
    rw [hfe] at hcnd
    refine ⟨fun q => ?_, fun e => ?_⟩
    · have := nodup_apart hcnd k q
      rcases hz with hz | hz
      · exact this.1 (List.mem_append_right _ (List.mem_flatMap.2 ⟨z, hz, hk⟩))
      · exact this.2 (List.mem_flatMap.2 ⟨z, hz, hk⟩)
    · subst e
      have h2 := HCND.out
      unfold cfoot at h2
      simp only [List.nodup_cons, List.mem_cons, List.mem_append, not_or, List.nodup_append, List.mem_flatMap, not_exists, not_and] at h2
      refine h2.2.2.2.2 k hga k ⟨z, ?_, hk⟩ rfl
      rw [hrs]; rcases hz with hz | hz <;> simp [hz]
  have hcat : CwAt (w3.setCell ⟨g, i, none⟩ r'.val) c' := by
    rw [hc']
    refine ⟨?_, ?_, ?_, ?_, hcw.nm, hcw.pr⟩
    · have := (hnk c.cb (hlt _ (by simp [cfoot])) m2 m1).trans hcw.blk
      rw [this]; simp [ccells, hrs]
    · have h3 : w3.ownsRow 0 137 1 (.slice c.ra c.recs.length c.rc) c.recs.length (rowR c.recs) := own_of_block hcw.row fun k q => by
        have q2 := own_slice_block _ _ _ k q
        rw [HRA.out k q2]; exact HB3.out
      rw [HG0.out] at h3
      have h4 := (h3.stored i r'.val).1
      have e1 : (rowR c.recs).set i r'.val = rowR (r1 ++ r' :: r2) := by rw [← hset]; simp [rowR, List.map_set]
      have e2 : (r1 ++ r' :: r2).length = c.recs.length := by rw [hrs]; simp
      show (w3.setCell ⟨g, i, none⟩ r'.val).ownsRow 0 137 1 (.slice c.ra (r1 ++ r' :: r2).length c.rc) (r1 ++ r' :: r2).length (rowR (r1 ++ r' :: r2))
      rw [e2, ← e1, HG0.out]; exact h4
    · intro z hz
      have hz' : z ∈ r1 ∨ z = r' ∨ z ∈ r2 := by simpa using hz
      rcases hz' with hz' | rfl | hz'
      · have hzm : z ∈ c.recs := by rw [hrs]; simp [hz']
        refine own_of_block (hcw.recs z hzm) fun k q => ?_
        have q2 := own_slice_block _ _ _ k q
        exact hnk k (own_lt (hcw.recs z hzm) k q2) (hoth z (.inl hz') k q2).1 (hoth z (.inl hz') k q2).2
      · refine own_of_block (w := w3) ?_ fun k q => heap_set_ne _ fun e => ?_
        · rw [hr']; exact HOWN.out
        · have q2 := own_slice_block _ _ _ k q
          subst e
          rcases hloc' _ q2 with q3 | q3
          · exact m3 q3
          · omega
      · have hzm : z ∈ c.recs := by rw [hrs]; simp [hz']
        refine own_of_block (hcw.recs z hzm) fun k q => ?_
        have q2 := own_slice_block _ _ _ k q
        exact hnk k (own_lt (hcw.recs z hzm) k q2) (hoth z (.inr hz') k q2).1 (hoth z (.inr hz') k q2).2
    · exact hcw.map.of_block (hnk c.sb (hlt _ (by simp [cfoot])) m5 m4)
  have hsb : c'.cb = c.cb := by rw [hc']
  obtain ⟨l1, l2, hV⟩ := mem_split HCM.out
  have hend := cust_end (c' := c') H1.out he2 HPP.out (by have := HO.out; show ¬ y.x.l.op = 1; omega) (by have := HO.out; show ¬ y.x.l.op = 2; omega) hV HCN.out (by rw [hc']) hsb hcat hu (fun k q => by
      rw [hfe'] at q
      rw [hfe]
      rcases List.mem_append.1 q with q | q
      · exact .inl (List.mem_append_left _ q)
      · rcases List.mem_append.1 q with q | q
        · rcases hloc' k q with q | q
          · exact .inl (List.mem_append_right _ (List.mem_append_left _ q))
          · exact .inr q
        · exact .inl (List.mem_append_right _ (List.mem_append_right _ q))) (by
      rw [hfe']
      rw [hfe] at hcnd
      exact nodup_swap (n := w2.heap.size) hcnd (by cases r'.a <;> simp [ob]) hloc' (by rw [← hfe]; exact hlt)) (by
      rw [hc']
      intro z hz x hx
      have hz' : z ∈ r1 ∨ z = r' ∨ z ∈ r2 := by simpa using hz
      rcases hz' with hz' | rfl | hz'
      · exact H1.out.recs c HCM.out z (by rw [hrs]; simp [hz']) x hx
      · rw [hr'] at hx
        rcases List.mem_append.1 hx with hx | hx
        · exact H1.out.recs c HCM.out r HRM.out x hx
        · simp at hx; simp [hx]
      · exact H1.out.recs c HCM.out z (by rw [hrs]; simp [hz']) x hx) (by rw [hc']; exact H1.out.shares c HCM.out) (by
      have e1 : (y.l.nu - 1).toNat = i := by have := HI.out; have e : y.x.l.nu = y.l.nu := rfl; omega
      have e2 : c.p.recs.getD i [] = r.p := by
        show (c.recs.map Rv.p).getD i [] = _
        rw [List.getD_eq_getElem?_getD, List.getElem?_map, List.getElem?_eq_getElem hil, ← HR.out]; rfl
      have h3 : ¬ y.l.op = 3 := by have := HO.out; show ¬ y.x.l.op = 3; omega
      have h4 : y.l.op = 4 := HO.out
      rw [putC, if_neg h3, if_pos h4, e1, e2, hc', ← hset]
      simp only [Cw.p, List.map_set, hr']
      simp [Rv.p])
  obtain ⟨V2, h2, hu2, hs2, hch, hvb, hpp⟩ := hend
  have H2 := Lib.hid h2; have HU := Lib.hid hu2; have HS := Lib.hid hs2; have HCH := Lib.hid hch; have HVB := Lib.hid hvb; have HP := Lib.hid hpp
  clear h2 hu2 hs2 hch hvb hpp hcat hu hnk hg hcnd m1 m2 m3 m4 m5 m6 hcw hc' hsb hV gf hcg hlt hgl hsz3 hga hfe hfe' hloc' hoth hrs hset hr1
  generalize World.setCell w3 _ _ = w4 at *
  clear HB3 HOWN HG HLOC HA
  obtain ⟨v0, v1, v2, v3⟩ := obj_cells4 H2.out.blk
  have vf := obj_free H2.out.blk w4 (Ext.refl _)
  replace v3 := v3 w4 (Ext.refl _)
  rw [HVB.out] at v3 vf
  have happ := app_ptr w4 104 104 Try.underlying104 V2.ca V2.cc V2.chain y H2.out.row (by rw [HCH.out]; exact hn)
  have HA := Lib.hid happ
  clear v0 v1 v2 happ
  go_wp2_with (at_builtin; refine wpList_app _ rfl _ _ 104 rfl _ HA.out ?_; rintro v' w5 ⟨ca', cc', rfl, hown, hg, hloc⟩; have hb3 := tail_blk H2.out hg; rw [HVB.out] at hb3; have v3 := (obj_cells4 hb3).2.2.2 w5 (Ext.refl _); have vf := obj_free hb3 w5 (Ext.refl _); clear hb3; have HOWN := Lib.hid hown; have HG := Lib.hid hg; have HLOC := Lib.hid hloc; clear hown hg hloc)
  go_ret
  rw [← HVB.out]
  have hpt := put_tail H2.out HU.out HS.out ca' cc' HOWN.out HG.out HLOC.out HCH.out HVB.out HP.out
  rw [show (V2.chain ++ [y]).length = V2.chain.length + 1 by simp] at hpt
  exact hpt
end Go.Proofs.Ytlahejakcgoheaa
end
section
/-
  Walk: put of a share; put of any link.
-/
set_option linter.unusedVariables false
set_option linter.unusedSimpArgs false
namespace Go.Proofs.Ytlahejakcgoheaa
open Go.RowKit
/-- A share is laid, in the place of an elder one. -/
def putShW (k : Int × ByteArray) (y : Cl) : List ((Int × ByteArray) × Cl) → List ((Int × ByteArray) × Cl)
  | [] => [(k, y)]
  | p :: ps => if p.1 = k then (k, y) :: ps else p :: putShW k y ps
theorem putShW_p (k : Int × ByteArray) (y : Cl) (ss : List ((Int × ByteArray) × Cl)) : (putShW k y ss).map (fun q => (q.1, q.2.l)) = putShare k y.l (ss.map fun q => (q.1, q.2.l)) := by
  induction ss with
  | nil => rfl
  | cons p ps ih =>
    simp only [putShW, List.map_cons, putShare]
    by_cases h : p.1 = k
    · simp [h]
    · simp [h, ih]
theorem putShW_mem {k : Int × ByteArray} {y : Cl} {ss : List ((Int × ByteArray) × Cl)} {q : (Int × ByteArray) × Cl} (h : q ∈ putShW k y ss) : q ∈ ss ∨ q.2 = y := by
  induction ss with
  | nil => simp [putShW] at h; right; rw [h]
  | cons p ps ih =>
    simp only [putShW] at h
    by_cases hk : p.1 = k
    · rw [if_pos hk] at h
      rcases List.mem_cons.1 h with rfl | h
      · right; rfl
      · left; simp [h]
    · rw [if_neg hk] at h
      rcases List.mem_cons.1 h with rfl | h
      · left; simp
      · rcases ih h with h | h
        · left; simp [h]
        · exact .inr h
theorem putShW_new {k : Int × ByteArray} {y : Cl} {ss : List ((Int × ByteArray) × Cl)} (h : ∀ q ∈ ss, q.1 ≠ k) : putShW k y ss = ss ++ [(k, y)] := by
  induction ss with
  | nil => rfl
  | cons p ps ih =>
    simp only [putShW, if_neg (h p (by simp)), List.cons_append]
    rw [ih fun q hq => h q (by simp [hq])]
theorem putShW_old {k : Int × ByteArray} {y : Cl} {ss : List ((Int × ByteArray) × Cl)} (h : ∃ q ∈ ss, q.1 = k) : ∃ (j : Nat) (z : Cl), ss[j]? = some (k, z) ∧ putShW k y ss = ss.set j (k, y) := by
  induction ss with
  | nil => simp at h
  | cons p ps ih =>
    by_cases hk : p.1 = k
    · exact ⟨0, p.2, by simp [← hk], by simp [putShW, hk]⟩
    · obtain ⟨j, z, h1, h2⟩ := ih (by
        obtain ⟨q, hq, e⟩ := h
        rcases List.mem_cons.1 hq with rfl | hq
        · exact absurd e hk
        · exact ⟨q, hq, e⟩)
      exact ⟨j + 1, z, by simpa using h1, by simp [putShW, hk, h2]⟩
theorem share_store {w : World} {sb : Nat} {ss : List ((Int × ByteArray) × Cl)} (h : MapAt 142 w sb (shM ss)) (n : Int) (s : ByteArray) (y : Cl) (h0 : -9223372036854775808 ≤ n) (h1 : n ≤ 9223372036854775807) (hs : s.size ≤ maxLen) (hl : ss.length ≤ 1000) :
    ∃ w', (Instr.mapUpdate 133 (.map (some sb)) (.agg #[.int .i64 n, .string s]) (ptr y.b)).run Try.prog w = .ok () w' ∧ MapAt 142 w' sb (shM (putShW (n, s) y ss)) ∧ Turned w w' sb := by
  by_cases hk : ∃ q ∈ ss, q.1 = (n, s)
  · obtain ⟨j, z, e1, e2⟩ := putShW_old (y := y) hk
    have hj : (shM ss)[j]? = some (.agg #[.int .i64 n, .string s], ptr z.b) := by simp [shM, e1]
    obtain ⟨w', r1, r2, r3⟩ := h.store_old law142 Try.underlying133 (key142 n s h0 h1 hs) (val := ptr y.b) hj
    refine ⟨w', r1, ?_, r3⟩
    rw [e2]
    have : shM (ss.set j ((n, s), y)) = (shM ss).set j (.agg #[.int .i64 n, .string s], ptr y.b) := by simp [shM, List.map_set]
    rw [this]; exact r2
  · obtain ⟨w', r1, r2, r3⟩ := h.store_new law142 Try.underlying133 (key142 n s h0 h1 hs) (val := ptr y.b) (fun p hp e => hk (by
      obtain ⟨q, hq, rfl⟩ := List.mem_map.1 hp
      simp at e
      exact ⟨q, hq, Prod.ext e.1 e.2⟩)) (by simp only [shM, List.length_map, maxLen]; omega)
    refine ⟨w', r1, ?_, r3⟩
    rw [putShW_new fun q hq e => hk ⟨q, hq, e⟩]
    have : shM (ss ++ [((n, s), y)]) = shM ss ++ [(.agg #[.int .i64 n, .string s], ptr y.b)] := by simp [shM]
    rw [this]; exact r2
set_option maxRecDepth 100000 in
set_option maxHeartbeats 8000000 in
theorem put_5 (V : Vw) (y : Cl) (w : World) (h : VwAt w V V.chain) (hp : PVOk V.p) (hy : VwAt w V (V.chain ++ [y])) (hn : V.chain.length ≤ 1000000) (hc : couldB V.p y.l = true) (ho : y.x.l.op = 5) : Calls Try.prog 60 #[ptr V.vb, ptr y.b] w (RetPut V y w) := by
  obtain ⟨hy1, hy2, -⟩ := hy.links y (by simp)
  have hcd := could_any V V.chain y w h hp hy1 hy2
  rw [hc] at hcd
  have HC := Lib.hid hcd
  have HY := Lib.hid hy
  have HW := Lib.hid hy1.1
  obtain ⟨c, hfw⟩ := could_w hc (show ¬ y.x.l.op = 1 by omega) (show ¬ y.x.l.op = 2 by omega)
  obtain ⟨hcm, hcn⟩ := findW_mem hfw
  have hlk := look103_yes h hy2.cu hfw
  have HLK := Lib.hid hlk; have HCM := Lib.hid hcm; have HCN := Lib.hid hcn
  have hpc := hp.cs c.p (List.mem_map.2 ⟨c, hcm, rfl⟩)
  have hm0 : 0 ≤ c.made := hpc.m0
  have hm1 : c.made ≤ 20 := hpc.m1
  have hsl : c.shares.length ≤ 20 := by have := hpc.sl; simp [Cw.p] at this; omega
  have HO := Lib.hid ho; have HPP := Lib.hid hp; have HOK := Lib.hid hy2
  clear hcd h hp hy hy1 hy2 hc hfw hcm hcn hlk hpc
  go_enter Try.func60, Try.ntmps60
  go_wp2_with (fail)
  (with_reducible refine HC.out.mono ?_); rintro e w1 ⟨rfl, he1⟩
  have hw1 := HY.out.ext he1
  obtain ⟨v0, v1, v2, v3⟩ := obj_cells4 hw1.blk
  obtain ⟨c0, c1, c2, c3, c4, c5, c6, c7, c8, c9⟩ := obj_cells10 (he1.block HW.out)
  have ho2 : (y.x.l.op : Int) = 5 := by have := HO.out; omega
  rw [ho2] at c0
  have hlk := fun W (e : Ext w1 W) => HLK.out W (he1.trans e) false
  simp only [Bool.false_eq_true, if_false] at hlk
  clear v1 v2 v3 c2 c3 c4 c5 c6 c7 c8 c9 hw1 ho2 ho
  replace c0 := c0 w1 (Ext.refl _)
  have hr0 := Ext.refl w1
  go_wp2_with (fail)
  refine wp_region_ext (by kernel_rfl) (by kernel_rfl) hr0 ?_
  repeat (first | go_big_quiet_step ((fail)) | quiet_step ((fail)))
  refine wpQuiet_nil ?_
  rintro _ ⟨nq, rfl⟩
  have he2 := he1.trans nq.ok
  obtain ⟨w2, hw2⟩ : ∃ w2, w2 = nq.val := ⟨_, rfl⟩
  rw [← hw2] at he2 ⊢
  have H1 := Lib.hid (HY.out.ext he2)
  have hcw := H1.out.cus c HCM.out
  obtain ⟨g0, g1, g2, g3, g4⟩ := obj_cells5 hcw.blk
  replace g3 := g3 w2 (Ext.refl _)
  have gf := obj_free hcw.blk w2 (Ext.refl _)
  have HCW := Lib.hid hcw
  clear v0 c0 c1 hr0 hlk hw2 nq g0 g1 g2 g4 hcw
  go_upto_region 18 with fail
  have hnn : c.cb ≠ c.sb ∧ y.b ≠ c.sb ∧ y.b ≠ c.cb := by
    have hcn2 := cust_nodup H1.out HCM.out
    unfold cfoot at hcn2
    simp only [List.nodup_cons, List.mem_cons, List.mem_append, not_or] at hcn2
    have hyn := (H1.out.links y (by simp)).2.2.1
    obtain ⟨l1, l2, hV⟩ := mem_split HCM.out
    rw [foot_split hV] at hyn
    simp only [cfoot, List.mem_append, List.mem_cons, not_or] at hyn
    exact ⟨hcn2.1.1, hyn.2.1.2.1, hyn.2.1.1⟩
  have hb3 := block_set HCW.out.blk 3 (.int .i64 (c.made + 1))
  simp only [ccells, List.setIfInBounds_toArray, List.set_cons_succ, List.set_cons_zero] at hb3
  have hy3 := (heap_set_ne (w := w2) (g := c.cb) (o := 3) (.int .i64 (c.made + 1)) hnn.2.2).trans (he2.block HW.out)
  have hm3 := HCW.out.map.of_block (heap_set_ne (w := w2) (g := c.cb) (o := 3) (.int .i64 (c.made + 1)) (Ne.symm hnn.1))
  have hu3 : Upd (cfoot c) w2 (w2.setCell ⟨c.cb, 3, none⟩ (.int .i64 (c.made + 1))) := (Upd.refl _ _).set (.inl (by simp [cfoot])) _
  have hs3 : (w2.setCell ⟨c.cb, 3, none⟩ (.int .i64 (c.made + 1))).heap.size = w2.heap.size := by simp [World.setCell]
  have hk3 : ∀ k, k ≠ c.cb → (w2.setCell ⟨c.cb, 3, none⟩ (.int .i64 (c.made + 1))).heap[k]? = w2.heap[k]? := fun k q => heap_set_ne _ q
  have HB3 := Lib.hid hb3; have HY3 := Lib.hid hy3; have HM3 := Lib.hid hm3; have HU3 := Lib.hid hu3; have HS3 := Lib.hid hs3; have HK3 := Lib.hid hk3; have HNN := Lib.hid hnn
  clear hb3 hy3 hm3 hu3 hs3 hk3 hnn g3 gf
  generalize World.setCell w2 ⟨c.cb, 3, none⟩ _ = w3 at *
  obtain ⟨g0, g1, g2, g3, g4⟩ := obj_cells5 HB3.out
  obtain ⟨c0, c1, c2, c3, c4, c5, c6, c7, c8, c9⟩ := obj_cells10 HY3.out
  have e4 : ∀ W, ExtX c.sb w3 W → W.cell? ⟨c.cb, 4, none⟩ = some (.map (some c.sb)) := fun W e => e.cell (g4 w3 (Ext.refl _)) HNN.out.1
  have e3 : ∀ W, ExtX c.sb w3 W → W.cell? ⟨y.b, 3, none⟩ = some (.int .i64 y.x.l.nu) := fun W e => e.cell (c3 w3 (Ext.refl _)) HNN.out.2.1
  have e2 : ∀ W, ExtX c.sb w3 W → W.cell? ⟨y.b, 2, none⟩ = some (.string y.x.l.ki) := fun W e => e.cell (c2 w3 (Ext.refl _)) HNN.out.2.1
  have hX := ExtX.refl c.sb w3
  have HUP := Lib.hid (run_mapW (share_store (w := w3.drew) HM3.out y.x.l.nu y.x.l.ki y HOK.out.nu0 HOK.out.nu1 HOK.out.ki (by omega)))
  have hup := HUP.out.1
  have HT : Hid (ExtX c.sb w3 (mapW 133 w3.drew c.sb (.agg #[.int .i64 y.x.l.nu, .string y.x.l.ki]) (ptr y.b))) := (hX.drew).turned HUP.out.2.2
  clear g0 g1 g2 g3 g4 c0 c1 c2 c3 c4 c5 c6 c7 c8 c9
  go_region_held3 (fun W => ExtX c.sb w3 W) (first | with_reducible assumption | exact ExtX.drew (by with_reducible assumption) | exact HT.out) (first | fail)
  rename_i hheld
  clear hheld
  have HUP2 := Lib.hid HUP.out.2
  clear HUP hup HT e2 e3 e4 hX
  obtain ⟨c', hc'⟩ : ∃ c' : Cw, c' = { c with made := c.made + 1, shares := putShW (y.x.l.nu, y.x.l.ki) y c.shares } := ⟨_, rfl⟩
  obtain ⟨hmp, htn⟩ := HUP2.out
  have hcw := HCW.out
  have hlt := hcw.lt
  have hcnd := cust_nodup H1.out HCM.out
  have hfe : cfoot c' = cfoot c := by rw [hc']; rfl
  have hd : ∀ k : Nat, w3.drew.heap[k]? = w3.heap[k]? := fun k => rfl
  generalize mapW _ _ _ _ _ = w4 at *
  have hnk : ∀ k : Nat, k ≠ c.cb → k ≠ c.sb → w4.heap[k]? = w2.heap[k]? := fun k q q2 => by rw [htn.block k q2, hd, HK3.out k q]
  have hap : ∀ k, k ∈ (ob c.ra ++ c.recs.flatMap fun r => ob r.a) → k ≠ c.cb ∧ k ≠ c.sb := fun k q => by
    have h2 := hcnd
    unfold cfoot at h2
    simp only [List.nodup_cons, List.mem_cons, not_or] at h2
    exact ⟨fun e => h2.1.2 (e ▸ q), fun e => h2.2.1 (e ▸ q)⟩
  have hu : Upd (cfoot c) w2 w4 := Upd.turned (HU3.out.drew) htn (.inl (by simp [cfoot]))
  have hcat : CwAt w4 c' := by
    rw [hc']
    refine ⟨?_, own_of_block hcw.row fun k q => ?_, fun r hr => own_of_block (hcw.recs r hr) fun k q => ?_, hmp, hcw.nm, hcw.pr⟩
    · rw [htn.block c.cb HNN.out.1, hd, HB3.out]
    · have q2 := own_slice_block _ _ _ k q
      have := hap k (List.mem_append_left _ q2)
      exact hnk k this.1 this.2
    · have q2 := own_slice_block _ _ _ k q
      have := hap k (List.mem_append_right _ (List.mem_flatMap.2 ⟨r, hr, q2⟩))
      exact hnk k this.1 this.2
  have hsb : c'.cb = c.cb := by rw [hc']
  obtain ⟨l1, l2, hV⟩ := mem_split HCM.out
  have hend := cust_end (c' := c') H1.out he2 HPP.out (by have := HO.out; show ¬ y.x.l.op = 1; omega) (by have := HO.out; show ¬ y.x.l.op = 2; omega) hV HCN.out (by rw [hc']) hsb hcat hu (fun k q => .inl (hfe ▸ q)) (hfe ▸ hcnd) (by rw [hc']; exact H1.out.recs c HCM.out) (by
      rw [hc']
      intro q hq
      rcases putShW_mem hq with hq | hq
      · exact H1.out.shares c HCM.out q hq
      · rw [hq]; simp) (by
      have h3 : ¬ y.l.op = 3 := by have := HO.out; show ¬ y.x.l.op = 3; omega
      have h4 : ¬ y.l.op = 4 := by have := HO.out; show ¬ y.x.l.op = 4; omega
      rw [putC, if_neg h3, if_neg h4, hc']
      simp only [Cw.p, putShW_p])
  obtain ⟨V2, h2, hu2, hs2, hch, hvb, hpp⟩ := hend
  have H2 := Lib.hid h2; have HU := Lib.hid hu2; have HS := Lib.hid hs2; have HCH := Lib.hid hch; have HVB := Lib.hid hvb; have HP := Lib.hid hpp
  clear h2 hu2 hs2 hch hvb hpp hcat hu hnk hcnd hcw hc' hsb hV hlt hfe hd hap hmp htn
  clear HUP2 HB3 HY3 HM3 HU3 HS3 HK3
  obtain ⟨v0, v1, v2, v3⟩ := obj_cells4 H2.out.blk
  have vf := obj_free H2.out.blk w4 (Ext.refl _)
  replace v3 := v3 w4 (Ext.refl _)
  rw [HVB.out] at v3 vf
  have happ := app_ptr w4 104 104 Try.underlying104 V2.ca V2.cc V2.chain y H2.out.row (by rw [HCH.out]; exact hn)
  have HA := Lib.hid happ
  clear v0 v1 v2 happ
  go_wp2_with (at_builtin; refine wpList_app _ rfl _ _ 104 rfl _ HA.out ?_; rintro v' w5 ⟨ca', cc', rfl, hown, hg, hloc⟩; have hb3 := tail_blk H2.out hg; rw [HVB.out] at hb3; have v3 := (obj_cells4 hb3).2.2.2 w5 (Ext.refl _); have vf := obj_free hb3 w5 (Ext.refl _); clear hb3; have HOWN := Lib.hid hown; have HG := Lib.hid hg; have HLOC := Lib.hid hloc; clear hown hg hloc)
  go_ret
  rw [← HVB.out]
  have hpt := put_tail H2.out HU.out HS.out ca' cc' HOWN.out HG.out HLOC.out HCH.out HVB.out HP.out
  rw [show (V2.chain ++ [y]).length = V2.chain.length + 1 by simp] at hpt
  exact hpt
/-- The post of 'put'. -/
def RetPutB (V : Vw) (y : Cl) (w : World) (e : Ending) (w' : World) : Prop := if couldB V.p y.l then RetPut V y w e w' else Ret (.bool false) w e w'
theorem plain_op {l : Lk} (h : plainB l = true) : l.op = 1 ∨ l.op = 2 ∨ l.op = 3 ∨ l.op = 4 ∨ l.op = 5 := by
  refine Classical.byContradiction fun hn => ?_
  simp only [not_or] at hn
  rw [plainB_0 l hn.1 hn.2.1 hn.2.2.1 hn.2.2.2.1 hn.2.2.2.2] at h; cases h
set_option maxRecDepth 100000 in
set_option maxHeartbeats 4000000 in
theorem put_any (V : Vw) (y : Cl) (w : World) (h : VwAt w V V.chain) (hp : PVOk V.p) (hy : VwAt w V (V.chain ++ [y])) (hn : V.chain.length ≤ 1000000) : Calls Try.prog 60 #[ptr V.vb, ptr y.b] w (RetPutB V y w) := by
  unfold RetPutB
  cases hc : couldB V.p y.l
  · simp only [Bool.false_eq_true, if_false]
    obtain ⟨hy1, hy2, -⟩ := hy.links y (by simp)
    have hcd := could_any V V.chain y w h hp hy1 hy2
    rw [hc] at hcd
    have HC := Lib.hid hcd
    clear hcd h hp hy hy1 hy2 hc
    go_enter Try.func60, Try.ntmps60
    go_wp2_with (fail)
    (with_reducible refine HC.out.mono ?_); rintro e w1 ⟨rfl, he1⟩
    go_wp2_with (fail)
    go_ret
    exact ⟨rfl, he1⟩
  · simp only [if_true]
    rcases plain_op (could_plain hc) with ho | ho | ho | ho | ho
    · exact put_1 V y w h hp hy hn hc ho
    · exact put_2 V y w h hp hy hn hc ho
    · exact put_3 V y w h hp hy hn hc ho
    · exact put_4 V y w h hp hy hn hc ho
    · exact put_5 V y w h hp hy hn hc ho
end Go.Proofs.Ytlahejakcgoheaa
end
