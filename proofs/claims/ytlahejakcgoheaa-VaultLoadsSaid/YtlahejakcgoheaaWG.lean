/-
  Texts merged: Add, Good, V1, V2, V3.
-/
import Derived.Test.YtlahejakcgoheaaWQ
import Derived.StillTailTactics
section
/-
  Walk: add.
-/
set_option linter.unusedVariables false
set_option linter.unusedSimpArgs false
namespace Go.Proofs.Ytlahejakcgoheaa
open Go.RowKit
/-- A link with its Chain. -/
def withCh (l : Lk) (n : Nat) : Lk := { l with ch := n }
def chained (S : PV) (l : Lk) : Lk := withCh l (chainN (lastN S.chain) l)
def Cl.ch (y : Cl) (n : Nat) : Cl := ⟨y.b, ⟨withCh y.l n, y.x.ba, y.x.bc⟩⟩
/-- What 'add' leaves. -/
def RetAdd (V : Vw) (y : Cl) (w : World) (e : Ending) (w' : World) : Prop :=
  e = .returned (.tuple #[]) ∧ ∃ V' n, V'.p = putS V.p (chained V.p y.l) ∧ V'.vb = V.vb ∧ V'.chain = V.chain ++ [y.ch n] ∧ VwAt w' V' V'.chain ∧ Upd (y.b :: foot V) w w' ∧ ∀ k ∈ foot V', k ∈ foot V ∨ w.heap.size ≤ k
theorem lastN_lt {w : World} {V : Vw} {L : List Cl} (h : VwAt w V L) : lastN (V.chain.map Cl.l) < 18446744073709551616 := by
  unfold lastN
  cases e : (V.chain.map Cl.l).getLast? with
  | none => decide
  | some l =>
    have := List.mem_of_getLast? e
    obtain ⟨y, hy, rfl⟩ := List.mem_map.1 this
    exact (h.links y (h.chain y hy)).2.1.ch
theorem Upd.mono {F F' : List Nat} {w w' : World} (h : Upd F w w') (hF : ∀ x ∈ F, x ∈ F') : Upd F' w w' := ⟨h.os, h.tape, h.output, h.size, fun k q q2 => h.block k q fun q3 => q2 (hF k q3)⟩
theorem add_mid {w w3 : World} {V : Vw} {y : Cl} (h : VwAt w V V.chain) (hy : VwAt w V (V.chain ++ [y])) (hny : ∀ z ∈ V.chain, y.b ∉ lfoot z) (hya : y.b ∉ ob y.x.ba) (e : Ext w w3) (n : Nat) (hn : n < 18446744073709551616) :
    VwAt (w3.setCell ⟨y.b, 9, none⟩ (u64 n)) V (V.chain ++ [y.ch n]) ∧ VwAt (w3.setCell ⟨y.b, 9, none⟩ (u64 n)) V V.chain ∧ Upd [y.b] w (w3.setCell ⟨y.b, 9, none⟩ (u64 n)) := by
  obtain ⟨hy1, hy2, hy3, hy4, hy5⟩ := hy.links y (by simp)
  have h3 := h.ext e
  have hk : ∀ k, k ≠ y.b → (w3.setCell ⟨y.b, 9, none⟩ (u64 n)).heap[k]? = w3.heap[k]? := fun k q => heap_set_ne _ q
  have hs : w3.heap.size ≤ (w3.setCell ⟨y.b, 9, none⟩ (u64 n)).heap.size := by simp [World.setCell]
  have h4 : VwAt (w3.setCell ⟨y.b, 9, none⟩ (u64 n)) V V.chain := h3.frame (fun k q => hk k fun e => hy3 (e ▸ q)) (fun z hz k q => hk k fun e => hny z hz (e ▸ q)) hs
  have hb := block_set (hy1.ext e).1 9 (u64 n)
  refine ⟨h4.more (y.ch n) ⟨?_, ?_⟩ ?_ hy3 (fun k q => ⟨(hy4 k q).1, Nat.lt_of_lt_of_le (hy4 k q).2 (Nat.le_trans e.size hs)⟩) hy5, h4, ((Upd.set (e.upd) (.inl (by simp))) _)⟩
  · rw [show (y.ch n).b = y.b from rfl, hb]
    simp [lcells, Cl.ch, withCh]
  · exact (hy1.ext e).2.of_block fun k q => hk k fun e => hya (e ▸ q)
  · exact ⟨hy2.op, hy2.cu, hy2.ki, hy2.nu0, hy2.nu1, hy2.ve0, hy2.ve1, hy2.da0, hy2.da1, hy2.un0, hy2.un1, hy2.bo, hy2.tag, hn⟩
set_option maxRecDepth 100000 in
set_option maxHeartbeats 4000000 in
theorem add_any (V : Vw) (y : Cl) (w : World) (h : VwAt w V V.chain) (hp : PVOk V.p) (hy : VwAt w V (V.chain ++ [y])) (hny : ∀ z ∈ V.chain, y.b ∉ lfoot z) (hya : y.b ∉ ob y.x.ba) (hn : V.chain.length ≤ 1000000) (hc : couldB V.p (chained V.p y.l) = true) : Calls Try.prog 65 #[ptr V.vb, ptr y.b] w (RetAdd V y w) := by
  obtain ⟨hy1, hy2, hy3, hy4, hy5⟩ := hy.links y (by simp)
  have hl : ∀ W, Ext w W → Calls Try.prog 90 #[ptr V.vb] W (Ret (u64 (lastN (V.chain.map Cl.l))) W) := fun W e => last_any V V.chain W (h.ext e) hn
  have hk : ∀ W, Ext w W → Calls Try.prog 31 #[u64 (lastN (V.chain.map Cl.l)), lval y.x] W (Ret (u64 (chainN (lastN (V.chain.map Cl.l)) y.x.l)) W) := fun W e => chain_any _ y.x W (lastN_lt h) hy2 (hy1.2.ext e)
  have HL := Lib.hid hl; have HK := Lib.hid hk; have HW := Lib.hid hy1.1
  obtain ⟨c0, c1, c2, c3, c4, c5, c6, c7, c8, c9⟩ := obj_cells10 hy1.1
  clear hl hk
  have HH := Lib.hid h; have HP := Lib.hid hp; have HY := Lib.hid hy; have HN := Lib.hid hny; have HA := Lib.hid hya; have HC := Lib.hid hc; have HY2 := Lib.hid hy2; have HY3 := Lib.hid hy3; have HY4 := Lib.hid hy4; have HY5 := Lib.hid hy5; have HB := Lib.hid hy1.2
  have fr := obj_free hy1.1
  clear h hp hy hny hya hc hy1 hy2 hy3 hy4 hy5
  have hr0 := Ext.refl w
  go_enter Try.func65, Try.ntmps65
  go_upto_region 0 with fail
  go_region_with (first
    | (go_at_call 90; (with_reducible refine (HL.out _ (by repeat (first | with_reducible assumption | apply Ext.drew))).mono ?_); rintro e w2 ⟨rfl, he2⟩; have he2 : Ext w w2 := Ext.trans (by repeat (first | with_reducible assumption | apply Ext.drew)) he2)
    | (go_at_call 31; (with_reducible refine (HK.out _ (by repeat (first | with_reducible assumption | apply Ext.drew))).mono ?_); rintro e w3 ⟨rfl, he3⟩; have he3 : Ext w w3 := Ext.trans (by repeat (first | with_reducible assumption | apply Ext.drew)) he3))
  all_goals
    obtain ⟨q1, q2, q3⟩ := add_mid HH.out HY.out HN.out HA.out he3 (chainN (lastN (V.chain.map Cl.l)) y.x.l) (p61_64 (chainN_lt _ _))
    have HQ := Lib.hid (show Calls Try.prog 60 #[ptr V.vb, ptr y.b] _ _ from put_any V (y.ch (chainN (lastN (V.chain.map Cl.l)) y.x.l)) _ q2 HP.out q1 hn)
    have HU := Lib.hid q3
    clear q1 q2 q3 c0 c1 c2 c3 c4 c5 c6 c7 c8 c9 he2 he3 fr
    generalize World.setCell w3 _ _ = w4 at *
    go_wp2_with (fail)
    with_reducible refine HQ.out.mono ?_
    intro e w5 hpost; unfold RetPutB at hpost; rw [if_pos (show couldB V.p (y.ch (chainN (lastN (V.chain.map Cl.l)) y.x.l)).l = true from HC.out)] at hpost; obtain ⟨rfl, V', p1, p2, p3, p4, p5, p6⟩ := hpost
    go_wp2_with fail
    go_end0
    refine ⟨rfl, V', _, p1, p2, p3, p4, ?_, fun k q => ?_⟩
    · exact (HU.out.mono (by simp)).trans p5 (fun x q => .inl (List.mem_cons_of_mem _ q))
    · have := HU.out.size
      rcases p6 k q with q | q
      · exact .inl q
      · exact .inr (by omega)
end Go.Proofs.Ytlahejakcgoheaa
end
section
/-
  Plain words: what holds of every vault that calls make.
-/
set_option linter.unusedVariables false
set_option linter.unusedSimpArgs false
namespace Go.Proofs.Ytlahejakcgoheaa
/-- The links of a customer, counted. -/
def cnt (c : PC) : Nat := (c.recs.map List.length).sum + c.made.toNat
structure PVInv (S : PV) : Prop where
  ok : PVOk S
  len : (S.chain.length : Int) = S.cus.length + S.adv + ((S.cus.map cnt).sum : Nat)
theorem sum_le {α : Type} (f : α → Nat) (k : Nat) : ∀ l : List α, (∀ x ∈ l, f x ≤ k) → (l.map f).sum ≤ l.length * k
  | [], _ => by simp
  | x :: l, h => by
    have h1 := sum_le f k l fun y hy => h y (by simp [hy])
    have h2 := h x (by simp)
    simp only [List.map_cons, List.sum_cons, List.length_cons, Nat.add_mul, Nat.one_mul]
    omega
theorem PCOk.cnt {c : PC} (h : PCOk c) : cnt c ≤ 620 := by
  have h1 := sum_le List.length 20 c.recs fun r hr => (h.rr r hr).2
  have h2 := h.rl; have h3 := h.m1; have h4 := h.m0
  unfold Ytlahejakcgoheaa.cnt
  omega
theorem PVInv.short {S : PV} (h : PVInv S) : S.chain.length ≤ 14420 := by
  have h1 := sum_le Ytlahejakcgoheaa.cnt 620 S.cus fun c hc => (h.ok.cs c hc).cnt
  have h2 := h.ok.cl; have h3 := h.ok.a1; have h4 := h.len
  omega
theorem putC_name (l : Lk) (c : PC) : (putC l c).name = c.name := by
  unfold putC; split
  · rfl
  · split <;> rfl
theorem putC_proof (l : Lk) (c : PC) : (putC l c).proof = c.proof := by
  unfold putC; split
  · rfl
  · split <;> rfl
theorem putShare_len (k : Int × ByteArray) (l : Lk) (ss : List ((Int × ByteArray) × Lk)) : (putShare k l ss).length ≤ ss.length + 1 := by
  induction ss with
  | nil => simp [putShare]
  | cons p ps ih =>
    simp only [putShare]
    split
    · simp
    · simp; exact ih
theorem could_3 {S : PV} {l : Lk} {c : PC} (h : couldB S l = true) (h3 : l.op = 3) (hf : S.find l.cu = some c) : l.nu = (c.recs.length : Int) + 1 ∧ l.nu ≤ 30 ∧ l.ve = 1 ∧ nameB l.ki = true ∧ S.day ≤ l.un ∧ l.un ≤ 1000000 := by
  rw [couldB_3 S l c (could_plain h) h3 hf (could_body h (by omega) (by omega) hf)] at h
  simpa using h
theorem could_5 {S : PV} {l : Lk} {c : PC} (h : couldB S l = true) (h5 : l.op = 5) (hf : S.find l.cu = some c) : l.ve = ((findR c l.nu S.day).1.length : Int) ∧ (S.find l.ki).isSome = true ∧ l.ki ≠ l.cu ∧ c.made < 20 := by
  rw [couldB_5 S l c (could_plain h) (by omega) (by omega) (by omega) (by omega) hf (could_body h (by omega) (by omega) hf) (could_rec h (by omega) (by omega) (by omega) hf)] at h
  simpa using h
theorem could_2 {S : PV} {l : Lk} (h : couldB S l = true) (h2 : l.op = 2) : S.day < l.da ∧ l.da ≤ 1000000 ∧ S.adv < 2000 := by
  rw [couldB_2 S l (could_plain h) h2] at h
  simpa using h
theorem find_mem {S : PV} {n : ByteArray} {c : PC} (h : S.find n = some c) : c ∈ S.cus ∧ c.name = n := by
  unfold PV.find at h
  exact ⟨List.mem_of_find?_eq_some h, by have := List.find?_some h; simpa using this⟩
theorem find_none {S : PV} {n : ByteArray} (h : S.find n = none) : ∀ c ∈ S.cus, c.name ≠ n := by
  unfold PV.find at h
  intro c hc
  have := List.find?_eq_none.1 h c hc
  simpa using this
theorem set_sum (rs : List (List Lk)) (i : Nat) (h : i < rs.length) (l : Lk) : ((rs.set i (rs.getD i [] ++ [l])).map List.length).sum = (rs.map List.length).sum + 1 := by
  induction rs generalizing i with
  | nil => simp at h
  | cons r rs ih =>
    cases i with
    | zero => simp; omega
    | succ i =>
      have := ih i (by simpa using h)
      simp only [List.set_cons_succ, List.getD_cons_succ, List.map_cons, List.sum_cons]
      omega
theorem plain_345 {S : PV} {l : Lk} (h : couldB S l = true) (h1 : ¬ l.op = 1) (h2 : ¬ l.op = 2) : l.op = 3 ∨ l.op = 4 ∨ l.op = 5 := by
  have := plain_op (could_plain h); omega
theorem putC_ok {S : PV} {l : Lk} {c : PC} (hc : couldB S l = true) (h1 : ¬ l.op = 1) (h2 : ¬ l.op = 2) (hf : S.find l.cu = some c) (h : PCOk c) : PCOk (putC l c) ∧ cnt (putC l c) = cnt c + 1 := by
  rcases plain_345 hc h1 h2 with h3 | h4 | h5
  · obtain ⟨q1, q2, -⟩ := could_3 hc h3 hf
    rw [putC, if_pos h3]
    have := h.rl
    refine ⟨⟨by simp; omega, fun r hr => ?_, h.m0, h.m1, h.sl⟩, by simp [cnt]; omega⟩
    rcases List.mem_append.1 hr with hr | hr
    · exact h.rr r hr
    · simp at hr; subst hr; simp
  · obtain ⟨q1, q2⟩ := could_4 hc h4 hf
    obtain ⟨r1, r2, r3, -⟩ := findR_ok (could_rec hc h1 h2 (by omega) hf)
    rw [putC, if_neg (by omega), if_pos h4]
    refine ⟨⟨by simpa using h.rl, fun r hr => ?_, h.m0, h.m1, h.sl⟩, ?_⟩
    · rcases List.mem_or_eq_of_mem_set hr with hr | rfl
      · exact h.rr r hr
      · rw [r3] at q1
        refine ⟨by simp, ?_⟩
        rw [List.length_append]
        simp only [List.length_singleton]
        omega
    · have := set_sum c.recs (l.nu - 1).toNat (by omega) l
      unfold cnt
      simp only at this ⊢
      omega
  · obtain ⟨q1, q2, q3, q4⟩ := could_5 hc h5 hf
    rw [putC, if_neg (by omega), if_neg (by omega)]
    have m0 := h.m0
    refine ⟨⟨h.rl, h.rr, by show 0 ≤ c.made + 1; omega, by show c.made + 1 ≤ 20; omega, ?_⟩, ?_⟩
    · have := putShare_len (l.nu, l.ki) l c.shares
      have := h.sl
      show ((putShare (l.nu, l.ki) l c.shares).length : Int) ≤ c.made + 1
      omega
    · show (c.recs.map List.length).sum + (c.made + 1).toNat = (c.recs.map List.length).sum + c.made.toNat + 1
      omega
theorem map_one_sum {f : PC → PC} {n : ByteArray} {c : PC} : ∀ cs : List PC, (cs.map PC.name).Nodup → c ∈ cs → c.name = n → cnt (f c) = cnt c + 1 → ((cs.map fun d => if d.name = n then f d else d).map cnt).sum = (cs.map cnt).sum + 1
  | [], _, h, _, _ => by cases h
  | d :: cs, hd, h, hn, hf => by
    simp only [List.map_cons, List.nodup_cons] at hd
    rcases List.mem_cons.1 h with rfl | h
    · have : (cs.map fun d => if d.name = n then f d else d) = cs := by
        refine (List.map_congr_left (g := id) fun e he => ?_).trans (List.map_id cs)
        rw [if_neg fun q => hd.1 (by rw [hn, ← q]; exact List.mem_map.2 ⟨e, he, rfl⟩)]; rfl
      rw [List.map_cons, this, if_pos hn]
      simp [hf]; omega
    · have := map_one_sum cs hd.2 h hn hf
      have hne : ¬ d.name = n := fun q => hd.1 (by rw [q, ← hn]; exact List.mem_map.2 ⟨c, h, rfl⟩)
      simp only [List.map_cons, if_neg hne, List.sum_cons] at this ⊢
      omega
theorem find_uniq {cs : List PC} (h : (cs.map PC.name).Nodup) {c d : PC} (hc : c ∈ cs) (hd : d ∈ cs) (e : c.name = d.name) : c = d := by
  induction cs with
  | nil => cases hc
  | cons a cs ih =>
    simp only [List.map_cons, List.nodup_cons] at h
    rcases List.mem_cons.1 hc with rfl | hc2 <;> rcases List.mem_cons.1 hd with rfl | hd2
    · rfl
    · exact absurd (by rw [e]; exact List.mem_map.2 ⟨d, hd2, rfl⟩) h.1
    · exact absurd (by rw [← e]; exact List.mem_map.2 ⟨c, hc2, rfl⟩) h.1
    · exact ih h.2 hc2 hd2
theorem putS_inv {S : PV} {l : Lk} (hc : couldB S l = true) (h : PVInv S) : PVInv (putS S l) := by
  obtain ⟨⟨nd, cl, cs, d0, d1, a0, a1⟩, hl⟩ := h
  by_cases h1 : l.op = 1
  · obtain ⟨q1, q2, q3⟩ := could_1 hc h1
    rw [putS, if_pos h1]
    refine ⟨⟨?_, by simp; omega, fun c hc => ?_, d0, d1, a0, a1⟩, ?_⟩
    · rw [List.map_append, List.nodup_append]
      refine ⟨nd, by simp, fun a ha b hb e => ?_⟩
      obtain ⟨c, hc, rfl⟩ := List.mem_map.1 ha
      simp at hb
      exact find_none q2 c hc (e.trans hb)
    · rcases List.mem_append.1 hc with hc | hc
      · exact cs c hc
      · simp at hc; subst hc
        exact ⟨by simp, by simp, by simp, by simp, by simp⟩
    · simp [cnt]; omega
  · by_cases h2 : l.op = 2
    · obtain ⟨q1, q2, q3⟩ := could_2 hc h2
      rw [putS, if_neg h1, if_pos h2]
      refine ⟨⟨nd, cl, cs, by show 0 ≤ l.da; omega, q2, by show 0 ≤ S.adv + 1; omega, by show S.adv + 1 ≤ 2000; omega⟩, ?_⟩
      simp; omega
    · obtain ⟨c, hf⟩ := could_c hc h1 h2
      obtain ⟨hm, hn⟩ := find_mem hf
      obtain ⟨p1, p2⟩ := putC_ok hc h1 h2 hf (cs c hm)
      rw [putS, if_neg h1, if_neg h2]
      refine ⟨⟨?_, by simpa using cl, fun d hd => ?_, d0, d1, a0, a1⟩, ?_⟩
      · rw [List.map_map]
        rw [show (PC.name ∘ fun c => if c.name = l.cu then putC l c else c) = PC.name by
          funext c; simp only [Function.comp]; split
          · exact putC_name l c
          · rfl]
        exact nd
      · obtain ⟨d', hd', rfl⟩ := List.mem_map.1 hd
        split
        · rename_i q
          rw [find_uniq nd hd' hm (q.trans hn.symm)]
          exact p1
        · exact cs d' hd'
      · have := map_one_sum S.cus nd hm hn p2
        simp only [List.length_append, List.length_map, List.length_singleton]
        omega
/-- The vaults that calls make. -/
inductive Good : PV → Prop
  | new : Good PV.new
  | put {S : PV} {l : Lk} : Good S → couldB S l = true → l.ch = chainN (lastN S.chain) l → Good (putS S l)
theorem Good.inv {S : PV} (h : Good S) : PVInv S := by
  induction h with
  | new => exact ⟨⟨by simp [PV.new], by simp [PV.new], by simp [PV.new], by simp [PV.new], by simp [PV.new], by simp [PV.new], by simp [PV.new]⟩, by simp [PV.new]⟩
  | put _ hc _ ih => exact putS_inv hc ih
theorem Good.ok {S : PV} (h : Good S) : PVOk S := h.inv.ok
end Go.Proofs.Ytlahejakcgoheaa
end
section
/-
  Walks: New, Enrol, Advance, Day.
-/
set_option linter.unusedVariables false
set_option linter.unusedSimpArgs false
namespace Go.Proofs.Ytlahejakcgoheaa
open Go.RowKit
/-- A vault lies in block b: its state S, the blocks F that it writes, those of its links A. -/
def VaultAt (w : World) (b : Nat) (S : PV) (F A : List Nat) : Prop := ∃ V : Vw, V.vb = b ∧ V.p = S ∧ VwAt w V V.chain ∧ foot V = F ∧ V.chain.flatMap lfoot = A
theorem lfoot_lt {w : World} {L : List Cl} {F : List Nat} (h : LinksIn w L F) : ∀ k ∈ L.flatMap lfoot, k < w.heap.size := by
  intro k hk
  obtain ⟨y, hy, hk⟩ := List.mem_flatMap.1 hk
  simp only [lfoot, List.mem_cons] at hk
  rcases hk with rfl | hk
  · exact h.lt y hy
  · exact ((h y hy).2.2.2.1 k hk).2
theorem VaultAt.lt {w : World} {b : Nat} {S : PV} {F A : List Nat} (h : VaultAt w b S F A) : (∀ k ∈ F, k < w.heap.size) ∧ (∀ k ∈ A, k < w.heap.size) := by
  obtain ⟨V, rfl, rfl, h, rfl, rfl⟩ := h
  exact ⟨h.lt, lfoot_lt h.links⟩
theorem VaultAt.frame {w w' : World} {b : Nat} {S : PV} {F A : List Nat} (h : VaultAt w b S F A) (hF : ∀ k ∈ F, w'.heap[k]? = w.heap[k]?) (hA : ∀ k ∈ A, w'.heap[k]? = w.heap[k]?) (hs : w.heap.size ≤ w'.heap.size) : VaultAt w' b S F A := by
  obtain ⟨V, rfl, rfl, h, rfl, rfl⟩ := h
  exact ⟨V, rfl, rfl, h.frame hF (fun y hy k hk => hA k (List.mem_flatMap.2 ⟨y, hy, hk⟩)) hs, rfl, rfl⟩
theorem VaultAt.ext {w w' : World} {b : Nat} {S : PV} {F A : List Nat} (h : VaultAt w b S F A) (e : Ext w w') : VaultAt w' b S F A :=
  h.frame (fun k q => Below.block e k (h.lt.1 k q)) (fun k q => Below.block e k (h.lt.2 k q)) e.size
/-- What a call leaves that may turn a vault. -/
def RetStep (b : Nat) (S' : PV) (F A : List Nat) (v : Value) (w : World) (e : Ending) (w' : World) : Prop :=
  e = .returned v ∧ ∃ F' A', VaultAt w' b S' F' A' ∧ Upd F w w' ∧ (∀ k ∈ F', k ∈ F ∨ w.heap.size ≤ k) ∧ (∀ k ∈ A', k ∈ A ∨ w.heap.size ≤ k)
theorem RetStep.same {b : Nat} {S : PV} {F A : List Nat} {v : Value} {w w' : World} (h : VaultAt w b S F A) (e : Ext w w') : RetStep b S F A v w (.returned v) w' :=
  ⟨rfl, F, A, h.ext e, e.upd, fun k q => .inl q, fun k q => .inl q⟩
/-- What 'add' leaves of a link that was made in the same call. -/
def AddPost (V : Vw) (y : Cl) (w : World) (e : Ending) (w' : World) : Prop :=
  e = .returned (.tuple #[]) ∧ ∃ V' n, V'.p = putS V.p (chained V.p y.l) ∧ V'.vb = V.vb ∧ VwAt w' V' V'.chain ∧ Upd (foot V) w w' ∧ (∀ k ∈ foot V', k ∈ foot V ∨ w.heap.size ≤ k) ∧ (∀ k ∈ V'.chain.flatMap lfoot, k ∈ V.chain.flatMap lfoot ∨ w.heap.size ≤ k) ∧
      V'.chain = V.chain ++ [y.ch n]
theorem AddPost.step {V : Vw} {y : Cl} {w w' : World} {e : Ending} (h : AddPost V y w e w') (v : Value) : RetStep V.vb (putS V.p (chained V.p y.l)) (foot V) (V.chain.flatMap lfoot) v w (.returned v) w' := by
  obtain ⟨-, V', n, p1, p2, p3, p4, p5, p6, p7⟩ := h
  exact ⟨rfl, foot V', _, ⟨V', p2, p1, p3, rfl, rfl⟩, p4, p5, p6⟩
theorem AddPost.link {V : Vw} {y : Cl} {w w' : World} {e : Ending} (h : AddPost V y w e w') : ∃ n, w'.heap[y.b]? = some (.cells (lcells (y.ch n).x) 59 (0, 0)) := by
  obtain ⟨-, V', n, p1, p2, p3, p4, p5, p6, p7⟩ := h
  exact ⟨n, (p3.links (y.ch n) (by rw [p7]; simp)).1.1⟩
/-- 'add' of a link that was made in the same call. -/
theorem add_new (V : Vw) (y : Cl) (w w1 : World) (h : VwAt w V V.chain) (hg : Good V.p) (e : Ext w w1) (hb : LinkAt w1 y.b y.x) (ho : LkOk y.l) (h1 : w.heap.size ≤ y.b) (h2 : ∀ k ∈ ob y.x.ba, w.heap.size ≤ k ∧ k ≠ y.b ∧ k < w1.heap.size) (hbc : y.l.bo.length ≤ y.x.bc)
    (hc : couldB V.p (chained V.p y.l) = true) :
    Calls Try.prog 65 #[ptr V.vb, ptr y.b] w1 (AddPost V y w) := by
  have hn := hg.inv.short
  have hcl : V.p.chain.length = V.chain.length := by simp [Vw.p]
  have he := h.ext e
  have hf : y.b ∉ foot V := fun q => by have := h.lt _ q; omega
  have hy : VwAt w1 V (V.chain ++ [y]) := he.more y hb ho hf (fun k q => ⟨fun q2 => by have := h.lt _ q2; have := (h2 k q).1; omega, (h2 k q).2.2⟩) hbc
  refine (add_any V y w1 he hg.ok hy (fun z hz q => ?_) (fun q => (h2 _ q).2.1 rfl) (by omega) hc).mono ?_
  · have := lfoot_lt h.links y.b (List.mem_flatMap.2 ⟨z, hz, q⟩); omega
  · rintro e' w' ⟨rfl, V', n, p1, p2, p3, p4, p5, p6⟩
    refine ⟨rfl, V', n, p1, p2, p4, ?_, fun k q => ?_, fun k q => ?_, p3⟩
    · refine ⟨p5.os.trans e.os, p5.tape.trans e.tape, p5.output.trans e.output, Nat.le_trans e.size p5.size, fun k q q2 => ?_⟩
      rw [p5.block k (Nat.lt_of_lt_of_le q e.size) (fun q3 => ?_), Below.block e k q]
      rcases List.mem_cons.1 q3 with rfl | q3
      · omega
      · exact q2 q3
    · have := e.size
      rcases p6 k q with q | q
      · exact .inl q
      · exact .inr (by omega)
    · rw [p3, List.flatMap_append] at q
      rcases List.mem_append.1 q with q | q
      · exact .inl q
      · right
        simp [lfoot, Cl.ch] at q
        rcases q with rfl | q
        · exact h1
        · exact (h2 k q).1
set_option maxRecDepth 100000 in
set_option maxHeartbeats 1000000 in
theorem day_any (V : Vw) (L : List Cl) (w : World) (h : VwAt w V L) : Calls Try.prog 26 #[ptr V.vb] w (Ret (.int .i64 V.day) w) := by
  obtain ⟨c0, c1, c2, c3⟩ := obj_cells4 h.blk
  replace c1 := c1 w (Ext.refl _)
  clear c0 c2 c3 h
  go_enter Try.func26, Try.ntmps26
  go_wp2_with (fail)
  go_ret
  exact ⟨rfl, Ext.refl _⟩
theorem day_nil (w : World) : Calls Try.prog 26 #[.pointer none] w (Ret (.int .i64 0) w) := by
  go_enter Try.func26, Try.ntmps26
  go_wp2_with (fail)
  go_ret
  exact ⟨rfl, Ext.refl _⟩
def vw0 (w : World) : Vw := ⟨w.heap.size + 1, w.heap.size, [], 0, 0, none, 0, []⟩
/-- What 'New' leaves. -/
def RetNew (w : World) (e : Ending) (w' : World) : Prop := ∃ b F, e = .returned (ptr b) ∧ VaultAt w' b PV.new F [] ∧ Ext w w' ∧ ∀ k ∈ F, w.heap.size ≤ k
set_option maxRecDepth 100000 in
set_option maxHeartbeats 1000000 in
theorem new_any (w : World) : Calls Try.prog 21 #[] w (RetNew w) := by
  have hmm := @run_makeMap Try.prog
  go_enter Try.func21, Try.ntmps21
  go_wp2_with (fail)
  generalize hw1 : World.alloc _ _ = w1
  obtain ⟨he, o1, o2, -⟩ := alloc2 hw1
  go_ret
  refine ⟨w.heap.size + 1, [w.heap.size + 1, w.heap.size], rfl, ⟨vw0 w, rfl, rfl, ⟨?_, ?_, by simp [vw0], ?_, by simp [LinksIn, vw0], by simp [vw0], by simp [vw0], by simp [vw0], by simp [vw0, foot, ob]⟩, by simp [vw0, foot, ob], by simp [vw0]⟩, he, by simp⟩
  · rw [show (vw0 w).vb = w.heap.size + 1 from rfl, o2]; rfl
  · exact (MapAt.made 9 w).of_block (by rw [heap_new, o1])
  · exact ⟨by simp [vw0, rowP], .inl ⟨by simp [vw0], by simp [vw0]⟩⟩
end Go.Proofs.Ytlahejakcgoheaa
end
section
/-
  Walks: Enrol, Advance.
-/
set_option linter.unusedVariables false
set_option linter.unusedSimpArgs false
namespace Go.Proofs.Ytlahejakcgoheaa
open Go.RowKit
def enrolE (S : PV) (n p : ByteArray) : Int := if nameB n = false ∨ passB p = false then 4 else if (S.find n).isSome then 6 else if 20 ≤ S.cus.length then 8 else 0
def enrolL (n p : ByteArray) : Lk := ⟨1, n, ⟨#[]⟩, 0, 0, 0, 0, [], proofN (keyN n p), 0⟩
def enrolS (S : PV) (n p : ByteArray) : PV := if enrolE S n p = 0 then putS S (chained S (enrolL n p)) else S
theorem enrol_could {S : PV} {n p : ByteArray} (h : enrolE S n p = 0) : couldB S (chained S (enrolL n p)) = true := by
  unfold enrolE at h
  split at h
  · omega
  · rename_i q
    split at h
    · omega
    · rename_i q2
      split at h
      · omega
      · rename_i q3
        rw [couldB_1 _ _ (by rfl) rfl]
        simp only [not_or, Bool.not_eq_false] at q
        have hs : S.find (chained S (enrolL n p)).cu = none := by
          have : (chained S (enrolL n p)).cu = n := rfl
          rw [this]
          cases e : S.find n with
          | none => rfl
          | some c => rw [e] at q2; simp at q2
        rw [hs]
        have : nameB (chained S (enrolL n p)).cu = true := q.1
        rw [this]
        simp; omega
theorem proofN_lt (k : Nat) : proofN k < p61 := hbs_lt _ _ (nh_lt _)
theorem nameB_len {s : ByteArray} (h : nameB s = true) : s.size ≤ maxLen := by have := nameB_size h; unfold maxLen; omega
theorem enrolL_ok {n p : ByteArray} (hn : n.size ≤ maxLen) : LkOk (enrolL n p) := by
  have := p61_64 (proofN_lt (keyN n p))
  exact ⟨by simp [enrolL], hn, by show (0:Nat) ≤ maxLen; exact Nat.zero_le _, by simp [enrolL], by simp [enrolL], by simp [enrolL], by simp [enrolL], by simp [enrolL], by simp [enrolL], by simp [enrolL], by simp [enrolL], by simp [enrolL], this, by simp [enrolL]⟩
set_option maxRecDepth 100000 in
set_option maxHeartbeats 4000000 in
theorem enrol_vw (V : Vw) (w : World) (h : VwAt w V V.chain) (hg : Good V.p) (n p : ByteArray) (hn : n.size ≤ maxLen) (hp : p.size ≤ maxLen) :
    Calls Try.prog 37 #[ptr V.vb, .string n, .string p] w (RetStep V.vb (enrolS V.p n p) (foot V) (V.chain.flatMap lfoot) (.int .i64 (enrolE V.p n p)) w) := by
  have hva : VaultAt w V.vb V.p (foot V) (V.chain.flatMap lfoot) := ⟨V, rfl, rfl, h, rfl, rfl⟩
  obtain ⟨c0, c1, c2, c3⟩ := obj_cells4 h.blk
  obtain ⟨pv, th, hlk, hth⟩ := look103 h hn
  have hlen := fun W (e : Ext w W) => (h.map.ext e).len Try.underlying103 3
  have hcl : (cusM V.cus).length = V.cus.length := by simp [cusM]
  rw [hcl] at hlen
  have hfs : (V.p.find n).isSome = th := by
    rw [findW_p]
    rcases hth with ⟨rfl, hf⟩ | ⟨c, rfl, rfl, hf⟩ <;> rw [hf] <;> rfl
  have hcs : V.p.cus.length = V.cus.length := by simp [Vw.p]
  obtain ⟨r, hr⟩ : ∃ r, r = enrolE V.p n p := ⟨_, rfl⟩
  obtain ⟨S', hS⟩ : ∃ S', S' = enrolS V.p n p := ⟨_, rfl⟩
  have hbad : r ≠ 0 → S' = V.p := fun q => by rw [hS, enrolS, if_neg (by rw [← hr]; exact q)]
  have hr2 : r = if nameB n = false ∨ passB p = false then 4 else if th = true then 6 else if 20 ≤ V.cus.length then 8 else 0 := by rw [hr, enrolE, hfs, hcs]
  have HR2 := Lib.hid hr2
  have hnm := fun W => isName_any n W hn
  have hps := fun W => isPass_any p W hp
  have hky := fun W => key_any n p W hn hp
  have hpr := fun W => proof_any (keyN n p) W (p61_64 (keyN_lt _ _))
  rw [← hr, ← hS]
  have hcu : V.cus.length ≤ 20 := by have := hg.ok.cl; omega
  have HV := Lib.hid hva; have HH := Lib.hid h; have HG := Lib.hid hg; have HR := Lib.hid hr; have HS := Lib.hid hS; have HLK := Lib.hid hlk; have HLEN := Lib.hid hlen
  have HNM := Lib.hid hnm; have HPS := Lib.hid hps; have HKY := Lib.hid hky; have HPR := Lib.hid hpr; have HBAD := Lib.hid hbad
  replace hlk := hlk w (Ext.refl _)
  clear hva h hg hr hS hlen hfs hcs hr2 hnm hps hky hpr hbad hth hcl c1 c2 c3
  go_enter Try.func37, Try.ntmps37
  go_wp2_with (fail)
  (with_reducible refine (HNM.out _).mono ?_); rintro e w1 ⟨rfl, he1⟩
  cases B1 : nameB n
  · have hq : Hid (r = 4) := by rw [Hid, HR2.out, if_pos (.inl B1)]
    go_wp2_with (fail)
    go_ret
    rw [HBAD.out (by rw [hq.out]; decide), hq.out]
    exact RetStep.same HV.out he1
  · go_wp2_with (fail)
    (with_reducible refine (HPS.out _).mono ?_); rintro e w2 ⟨rfl, he2⟩
    have he12 := he1.trans he2
    cases B2 : passB p
    · have hq : Hid (r = 4) := by rw [Hid, HR2.out, if_pos (.inr B2)]
      go_wp2_with (fail)
      go_ret
      rw [HBAD.out (by rw [hq.out]; decide), hq.out]
      exact RetStep.same HV.out he12
    · have hnn : ¬ (nameB n = false ∨ passB p = false) := by simp [B1, B2]
      have HNN := Lib.hid hnn
      clear hnn
      cases th
      · have hlen := HLEN.out w2 he12
        replace c0 := c0 w2 he12
        clear hlk
        cases T : decide (20 ≤ (V.cus.length : Int))
        · have hq : Hid (r = 0) := by
            simp at T
            rw [Hid, HR2.out, if_neg HNN.out, if_neg (by simp), if_neg (by omega)]
          clear hcu
          go_wp2_with (fail)
          (with_reducible refine (HKY.out _).mono ?_); rintro e w3 ⟨rfl, he3⟩
          go_wp2_with (fail)
          (with_reducible refine (HPR.out _).mono ?_); rintro e w4 ⟨rfl, he4⟩
          have he4 := (he12.trans he3).trans he4
          clear c0 hlen
          go_upto_region 11 with fail
          generalize hw5 : World.alloc _ _ = w5
          obtain ⟨he5, o1, -⟩ := alloc1 hw5
          have hq5 : Calls Try.prog 65 #[ptr V.vb, ptr w4.heap.size] w5 (AddPost V ⟨w4.heap.size, ⟨enrolL n p, none, 0⟩⟩ w) :=
            add_new V ⟨w4.heap.size, ⟨enrolL n p, none, 0⟩⟩ w w5 HH.out HG.out (he4.trans he5) ⟨o1, .inl rfl⟩ (enrolL_ok hn) he4.size (by simp [ob]) (Nat.le_refl _) (enrol_could (HR.out.symm.trans hq.out))
          have HQ5 := Lib.hid hq5
          clear hq5 hw5 o1
          with_reducible refine HQ5.out.mono ?_
          intro e w6 hpost
          have HP := Lib.hid hpost
          obtain rfl := hpost.1
          clear hpost
          go_wp2_with (fail)
          go_ret
          have := HP.out.step (.int .i64 r)
          rw [HS.out, enrolS, if_pos (HR.out.symm.trans hq.out)]
          rw [hq.out] at this ⊢
          exact this
        · have hq : Hid (r = 8) := by
            simp at T
            rw [Hid, HR2.out, if_neg HNN.out, if_neg (by simp), if_pos (by omega)]
          go_wp2_with (fail)
          go_ret
          rw [HBAD.out (by rw [hq.out]; decide), hq.out]
          exact RetStep.same HV.out he12
      · have hq : Hid (r = 6) := by rw [Hid, HR2.out, if_neg HNN.out, if_pos rfl]
        go_wp2_with (fail)
        go_ret
        rw [HBAD.out (by rw [hq.out]; decide), hq.out]
        exact RetStep.same HV.out he12
def advE (S : PV) (d : Int) : Int := if d ≤ S.day ∨ 1000000 < d then 3 else if 2000 ≤ S.adv then 8 else 0
def advL (d : Int) : Lk := ⟨2, ⟨#[]⟩, ⟨#[]⟩, 0, 0, d, 0, [], 0, 0⟩
def advS (S : PV) (d : Int) : PV := if advE S d = 0 then putS S (chained S (advL d)) else S
theorem adv_could {S : PV} {d : Int} (h : advE S d = 0) : couldB S (chained S (advL d)) = true := by
  unfold advE at h
  split at h
  · omega
  · split at h
    · omega
    · rw [couldB_2 _ _ (by rfl) rfl]
      have : (chained S (advL d)).da = d := rfl
      rw [this]
      simp; omega
theorem advL_ok {d : Int} (h0 : -9223372036854775808 ≤ d) (h1 : d ≤ 9223372036854775807) : LkOk (advL d) :=
  ⟨by simp [advL], by show (0:Nat) ≤ maxLen; exact Nat.zero_le _, by show (0:Nat) ≤ maxLen; exact Nat.zero_le _, by simp [advL], by simp [advL], by simp [advL], by simp [advL], h0, h1, by simp [advL], by simp [advL], by simp [advL], by simp [advL], by simp [advL]⟩
set_option maxRecDepth 100000 in
set_option maxHeartbeats 4000000 in
theorem adv_vw (V : Vw) (w : World) (h : VwAt w V V.chain) (hg : Good V.p) (d : Int) (h0 : -9223372036854775808 ≤ d) (h1 : d ≤ 9223372036854775807) :
    Calls Try.prog 43 #[ptr V.vb, .int .i64 d] w (RetStep V.vb (advS V.p d) (foot V) (V.chain.flatMap lfoot) (.int .i64 (advE V.p d)) w) := by
  have hva : VaultAt w V.vb V.p (foot V) (V.chain.flatMap lfoot) := ⟨V, rfl, rfl, h, rfl, rfl⟩
  obtain ⟨c0, c1, c2, c3⟩ := obj_cells4 h.blk
  obtain ⟨r, hr⟩ : ∃ r, r = advE V.p d := ⟨_, rfl⟩
  obtain ⟨S', hS⟩ : ∃ S', S' = advS V.p d := ⟨_, rfl⟩
  have hbad : r ≠ 0 → S' = V.p := fun q => by rw [hS, advS, if_neg (by rw [← hr]; exact q)]
  have hr2 : r = if d ≤ V.day ∨ 1000000 < d then 3 else if 2000 ≤ V.adv then 8 else 0 := by rw [hr]; rfl
  have HR2 := Lib.hid hr2
  rw [← hr, ← hS]
  have HV := Lib.hid hva; have HH := Lib.hid h; have HG := Lib.hid hg; have HR := Lib.hid hr; have HS := Lib.hid hS; have HBAD := Lib.hid hbad; have H0 := Lib.hid h0; have H1 := Lib.hid h1
  have d1 := hg.ok.d1; have d0 := hg.ok.d0; have a1 := hg.ok.a1; have a0 := hg.ok.a0
  simp only [Vw.p] at d1 d0 a1 a0
  replace c1 := c1 w (Ext.refl _)
  replace c2 := c2 w (Ext.refl _)
  clear hva h hg hr hS hr2 hbad c0 c3
  cases T1 : decide (d ≤ V.day)
  · cases T2 : decide (1000000 < d)
    · cases T3 : decide (2000 ≤ V.adv)
      · have hq : Hid (r = 0) := by
          simp at T1 T2 T3
          rw [Hid, HR2.out, if_neg (by omega), if_neg (by omega)]
        clear d1 d0 a1 a0 h0 h1
        go_enter Try.func43, Try.ntmps43
        go_upto_region 8 with fail
        generalize hw5 : World.alloc _ _ = w5
        obtain ⟨he5, o1, -⟩ := alloc1 hw5
        have hq5 : Calls Try.prog 65 #[ptr V.vb, ptr w.heap.size] w5 (AddPost V ⟨w.heap.size, ⟨advL d, none, 0⟩⟩ w) :=
          add_new V ⟨w.heap.size, ⟨advL d, none, 0⟩⟩ w w5 HH.out HG.out he5 ⟨o1, .inl rfl⟩ (advL_ok H0.out H1.out) (Nat.le_refl _) (by simp [ob]) (Nat.le_refl _) (adv_could (HR.out.symm.trans hq.out))
        have HQ5 := Lib.hid hq5
        clear hq5 hw5 o1
        with_reducible refine HQ5.out.mono ?_
        intro e w6 hpost
        have HP := Lib.hid hpost
        obtain rfl := hpost.1
        clear hpost
        go_wp2_with (fail)
        go_ret
        have := HP.out.step (.int .i64 r)
        rw [HS.out, advS, if_pos (HR.out.symm.trans hq.out)]
        rw [hq.out] at this ⊢
        exact this
      · have hq : Hid (r = 8) := by
          simp at T1 T2 T3
          rw [Hid, HR2.out, if_neg (by omega), if_pos (by omega)]
        go_enter Try.func43, Try.ntmps43
        go_wp2_with (fail)
        go_ret
        rw [HBAD.out (by rw [hq.out]; decide), hq.out]
        exact RetStep.same HV.out (Ext.refl _)
    · have hq : Hid (r = 3) := by
        simp at T1 T2
        rw [Hid, HR2.out, if_pos (.inr T2)]
      go_enter Try.func43, Try.ntmps43
      go_wp2_with (fail)
      go_ret
      rw [HBAD.out (by rw [hq.out]; decide), hq.out]
      exact RetStep.same HV.out (Ext.refl _)
  · have hq : Hid (r = 3) := by
      simp at T1
      rw [Hid, HR2.out, if_pos (.inl T1)]
    go_enter Try.func43, Try.ntmps43
    go_wp2_with (fail)
    go_ret
    rw [HBAD.out (by rw [hq.out]; decide), hq.out]
    exact RetStep.same HV.out (Ext.refl _)
end Go.Proofs.Ytlahejakcgoheaa
end
section
/-
  Walk: Seal.
-/
set_option linter.unusedVariables false
set_option linter.unusedSimpArgs false
namespace Go.Proofs.Ytlahejakcgoheaa
open Go.RowKit
/-- The error of 'enter'. -/
def enterR (S : PV) (n p : ByteArray) : Int := match S.find n with | none => 7 | some c => if proofN (keyN n p) = c.proof then 0 else 110
theorem enterV_bad {V : Vw} {n p : ByteArray} (h : enterR V.p n p ≠ 0) : enterV V n p = .tuple #[.pointer none, .int .u64 0, .int .i64 (enterR V.p n p)] := by
  unfold enterR at h ⊢
  unfold enterV
  rw [findW_p] at h ⊢
  cases e : findW V n with
  | none => rfl
  | some c =>
    rw [e] at h
    simp only [Option.map_some] at h ⊢
    have hp : c.p.proof = c.proof := rfl
    rw [hp] at h
    by_cases q : proofN (keyN n p) = c.proof
    · rw [if_pos q] at h; exact absurd rfl h
    · rw [if_neg q]; show _ = Value.tuple #[_, _, .int .i64 (if proofN (keyN n p) = c.proof then 0 else 110)]; rw [if_neg q]
theorem enterV_good {V : Vw} {n p : ByteArray} (h : enterR V.p n p = 0) : ∃ c, findW V n = some c ∧ enterV V n p = .tuple #[ptr c.cb, u64 (keyN n p), .int .i64 0] := by
  unfold enterR at h
  unfold enterV
  rw [findW_p] at h
  cases e : findW V n with
  | none => rw [e] at h; cases h
  | some c =>
    rw [e] at h
    simp only [Option.map_some] at h
    by_cases q : proofN (keyN n p) = c.proof
    · exact ⟨c, rfl, by simp [q]⟩
    · have : (if proofN (keyN n p) = c.proof then (0 : Int) else 110) = 0 := h
      rw [if_neg q] at this; cases this
theorem byts_lt {w : World} {a : Option Addr} {xs : List UInt8} (h : Byts w a xs) (hx : 0 < xs.length) : ∀ k ∈ ob a, k < w.heap.size := by
  rcases h with rfl | ⟨b, o, rfl, h2⟩
  · simp at hx
  · intro k hk
    simp [ob] at hk; subst hk
    exact lt_of_cell (h2 0 hx)
def recsN (S : PV) (n : ByteArray) : Nat := match S.find n with | none => 0 | some c => c.recs.length
def sealE (S : PV) (n p k : ByteArray) (un : Int) (t : ByteArray) : Int :=
  if enterR S n p ≠ 0 then enterR S n p else if nameB k = false then 4 else if un < S.day ∨ 1000000 < un then 3 else if 2000 < t.size then 5 else if 30 ≤ recsN S n then 8 else 0
/-- The link of Seal, before it is shut. -/
def sealL0 (S : PV) (n k : ByteArray) (un : Int) : Lk := ⟨3, n, k, (recsN S n : Int) + 1, 1, S.day, un, [], 0, 0⟩
def sealL (S : PV) (n p k : ByteArray) (un : Int) (t : ByteArray) : Lk := sealedL (keyN n p) (sealL0 S n k un) t.data.toList
def sealS (S : PV) (n p k : ByteArray) (un : Int) (t : ByteArray) : PV := if sealE S n p k un t = 0 then putS S (chained S (sealL S n p k un t)) else S
def sealR (S : PV) (n p k : ByteArray) (un : Int) (t : ByteArray) : Value := .tuple #[.int .i64 (if sealE S n p k un t = 0 then (recsN S n : Int) + 1 else 0), .int .i64 (sealE S n p k un t)]
theorem sealed_len (key : Nat) (l : Lk) (t : List UInt8) : (sealedL key l t).bo.length = padN t.length := by
  unfold sealedL; simp only; rw [ciph_len, padB_len]
theorem sealed_body {key : Nat} {l : Lk} {t : ByteArray} (h : t.size ≤ 2000) : (sealedL key l t.data.toList).bo.length ≠ 0 ∧ (sealedL key l t.data.toList).bo.length ≤ 2016 ∧ (sealedL key l t.data.toList).bo.length % 32 = 0 := by
  rw [sealed_len, len_data]
  have := padN_32 t.size; have := padN_mod t.size
  refine ⟨by omega, ?_, padN_mod _⟩
  unfold padN; omega
theorem enter_find {S : PV} {n p : ByteArray} (h : enterR S n p = 0) : ∃ c, S.find n = some c := by
  unfold enterR at h
  cases e : S.find n with
  | none => rw [e] at h; cases h
  | some c => exact ⟨c, rfl⟩
theorem seal_could {S : PV} {n p k : ByteArray} {un : Int} {t : ByteArray} (h : sealE S n p k un t = 0) : couldB S (chained S (sealL S n p k un t)) = true := by
  unfold sealE at h
  split at h
  · rename_i q; exact absurd h q
  · rename_i q
    simp only [ne_eq, Decidable.not_not] at q
    split at h
    · omega
    · rename_i q2
      split at h
      · omega
      · rename_i q3
        split at h
        · omega
        · rename_i q4
          split at h
          · omega
          · rename_i q5
            obtain ⟨c, hf⟩ := enter_find q
            have hr : recsN S n = c.recs.length := by unfold recsN; rw [hf]
            have hb := sealed_body (key := keyN n p) (l := sealL0 S n k un) (t := t) (by omega)
            rw [couldB_3 S (chained S (sealL S n p k un t)) c (by rfl) rfl hf ⟨rfl, hb⟩]
            have e1 : (chained S (sealL S n p k un t)).nu = (recsN S n : Int) + 1 := rfl
            have e2 : (chained S (sealL S n p k un t)).ve = 1 := rfl
            have e3 : (chained S (sealL S n p k un t)).ki = k := rfl
            have e4 : (chained S (sealL S n p k un t)).un = un := rfl
            rw [e1, e2, e3, e4, hr]
            have : nameB k = true := by simpa using q2
            rw [this]
            simp; omega
theorem wrap64_id {n : Int} (h0 : -9223372036854775808 ≤ n) (h1 : n ≤ 9223372036854775807) : wrap64 n = n := by unfold wrap64; omega
theorem le_big {n : Nat} (h : n ≤ 2016) : n ≤ 140737488355328 := by omega
theorem sealed_tag (key : Nat) (l : Lk) (t : List UInt8) : (sealedL key l t).tag < 18446744073709551616 := by
  have : (sealedL key l t).tag = hbs (nh (sealK key l)) (ciph (sealK key l) (padB t)) := by simp only [sealedL]
  exact Nat.lt_of_le_of_lt (Nat.le_of_eq this) (p61_64 (hbs_lt _ _ (nh_lt _)))
theorem LkOk.with {l : Lk} (h : LkOk l) (b : List UInt8) (t : Nat) (hb : b.length ≤ 140737488355328) (ht : t < 18446744073709551616) : LkOk { l with bo := b, tag := t } := by
  cases l
  obtain ⟨h1, h2, h3, h4, h5, h6, h7, h8, h9, h10, h11, -, -, h14⟩ := h
  exact ⟨h1, h2, h3, h4, h5, h6, h7, h8, h9, h10, h11, hb, ht, h14⟩
theorem sealed_ok {key : Nat} {l : Lk} {t : ByteArray} (h : LkOk l) (ht : t.size ≤ 2000) : LkOk (sealedL key l t.data.toList) := by
  obtain ⟨-, b2, -⟩ := sealed_body (key := key) (l := l) ht
  have ht := sealed_tag key l t.data.toList
  unfold sealedL at b2 ht ⊢
  refine h.with _ _ (le_big b2) ?_
  simp only at ht
  exact ht
theorem sealL0_ok {S : PV} {n k : ByteArray} {un : Int} (hg : Good S) (hr : recsN S n ≤ 30) (hn : n.size ≤ maxLen) (hk : k.size ≤ maxLen) (h0 : -9223372036854775808 ≤ un) (h1 : un ≤ 9223372036854775807) : LkOk (sealL0 S n k un) := by
  have d0 := hg.ok.d0; have d1 := hg.ok.d1
  refine ⟨by simp [sealL0], hn, hk, ?_, ?_, by simp [sealL0], by simp [sealL0], ?_, ?_, h0, h1, by simp [sealL0], by simp [sealL0], by simp [sealL0]⟩
  · show -9223372036854775808 ≤ (recsN S n : Int) + 1; omega
  · show (recsN S n : Int) + 1 ≤ 9223372036854775807; omega
  · show -9223372036854775808 ≤ S.day; omega
  · show S.day ≤ 9223372036854775807; omega
/-- 'add' of a link that 'shut' has closed. -/
theorem add_shut (V : Vw) (b : Nat) (l : Lk) (ba : Option Addr) (bc : Nat) (w w3 w4 : World) (h : VwAt w V V.chain) (hg : Good V.p) (e : Ext w w3) (hbs : w.heap.size ≤ b) (hb3 : b < w3.heap.size) (hx : ExtX b w3 w4) (hl : LinkAt w4 b ⟨l, ba, bc⟩) (ho : LkOk l) (hbc : l.bo.length ≤ bc)
    (hba : ∀ d, ba = some d → w3.heap.size ≤ d.block) (h0 : l.bo.length ≠ 0) (hc : couldB V.p (chained V.p l) = true) : Calls Try.prog 65 #[ptr V.vb, ptr b] w4 (AddPost V ⟨b, ⟨l, ba, bc⟩⟩ w) := by
  have hlt := byts_lt hl.2 (by show 0 < l.bo.length; omega)
  refine add_new V ⟨b, ⟨l, ba, bc⟩⟩ w w4 h hg ((e.x.trans hx).ext hbs) hl ho hbs (fun k hk => ?_) hbc hc
  refine ⟨?_, ?_, hlt k hk⟩
  · cases ba with
    | none => simp [ob] at hk
    | some d =>
      simp [ob] at hk; subst hk
      have := hba d rfl; have := e.size; omega
  · cases ba with
    | none => simp [ob] at hk
    | some d =>
      simp [ob] at hk; subst hk
      have := hba d rfl
      show d.block ≠ b; omega
set_option maxRecDepth 100000 in
set_option maxHeartbeats 4000000 in
theorem seal_vw (V : Vw) (w : World) (h : VwAt w V V.chain) (hg : Good V.p) (n p k t : ByteArray) (un : Int) (hn : n.size ≤ maxLen) (hp : p.size ≤ maxLen) (hk : k.size ≤ maxLen) (ht : t.size ≤ maxLen) (h0 : -9223372036854775808 ≤ un) (h1 : un ≤ 9223372036854775807) :
    Calls Try.prog 38 #[ptr V.vb, .string n, .string p, .string k, .int .i64 un, .string t] w (RetStep V.vb (sealS V.p n p k un t) (foot V) (V.chain.flatMap lfoot) (sealR V.p n p k un t) w) := by
  have hva : VaultAt w V.vb V.p (foot V) (V.chain.flatMap lfoot) := ⟨V, rfl, rfl, h, rfl, rfl⟩
  have hen := enter_any V V.chain n p w h hn hp
  have hnm := fun W => isName_any k W hk
  obtain ⟨c0, c1, c2, c3⟩ := obj_cells4 h.blk
  obtain ⟨r, hr⟩ : ∃ r, r = sealE V.p n p k un t := ⟨_, rfl⟩
  obtain ⟨v, hv⟩ : ∃ v, v = sealR V.p n p k un t := ⟨_, rfl⟩
  have hv2 : v = .tuple #[.int .i64 (if r = 0 then (recsN V.p n : Int) + 1 else 0), .int .i64 r] := by rw [hv, hr]; rfl
  obtain ⟨S', hS⟩ : ∃ S', S' = sealS V.p n p k un t := ⟨_, rfl⟩
  have hbad : r ≠ 0 → S' = V.p := fun q => by rw [hS, sealS, if_neg (by rw [← hr]; exact q)]
  have hbv : r ≠ 0 → v = .tuple #[.int .i64 0, .int .i64 r] := fun q => by rw [hv2, if_neg q]
  rw [← hS, ← hv]
  have HV := Lib.hid hva; have HH := Lib.hid h; have HG := Lib.hid hg; have HR := Lib.hid hr; have HS := Lib.hid hS; have HBAD := Lib.hid hbad; have HBV := Lib.hid hbv; have H0 := Lib.hid h0; have H1 := Lib.hid h1; have HVV := Lib.hid hv2
  have HEN := Lib.hid hen; have HNM := Lib.hid hnm; have HT := Lib.hid ht; have HN := Lib.hid hn; have HK := Lib.hid hk
  have d1 := hg.ok.d1; have d0 := hg.ok.d0
  simp only [Vw.p] at d1 d0
  clear hva h hg hr hS hbad c0 c2 c3 hv hv2 hbv hen hnm
  go_enter Try.func38, Try.ntmps38
  go_wp2_with (fail)
  (with_reducible refine HEN.out.mono ?_); rintro e w1 ⟨rfl, he1⟩
  by_cases T0 : enterR V.p n p = 0
  · obtain ⟨c, hf, hev⟩ := enterV_good T0
    rw [hev]
    have HF := Lib.hid hf; have HT0 := Lib.hid T0
    clear hev hf T0
    have hrn : recsN V.p n = c.recs.length := by unfold recsN; rw [findW_p, HF.out]; simp [Cw.p]
    obtain ⟨hcm, hcn⟩ := findW_mem HF.out
    have hrl : c.recs.length ≤ 30 := by
      have := (HG.out.ok.cs c.p (List.mem_map.2 ⟨c, hcm, rfl⟩)).rl
      simpa [Cw.p] using this
    obtain ⟨g0, g1, g2, g3, g4⟩ := obj_cells5 (HH.out.cus c hcm).blk
    have HRN := Lib.hid hrn
    clear hrn hcm hcn g0 g1 g3 g4
    have HR2 : Hid (r = if nameB k = false then 4 else if un < V.day ∨ 1000000 < un then 3 else if 2000 < t.size then 5 else if 30 ≤ c.recs.length then 8 else 0) := by
      rw [Hid, HR.out, sealE, if_neg (by rw [HT0.out]; simp), HRN.out]; rfl
    go_wp2_with (fail)
    (with_reducible refine (HNM.out _).mono ?_); rintro e w2 ⟨rfl, he2⟩
    have he12 := he1.trans he2
    have hfin : ∀ q : Int, q ≠ 0 → r = q → ∀ W, Ext w W → RetStep V.vb S' (foot V) (V.chain.flatMap lfoot) v w (.returned (.tuple #[.int .i64 0, .int .i64 q])) W := fun q q0 hq W he => by
      rw [HBAD.out (by rw [hq]; exact q0), HBV.out (by rw [hq]; exact q0), hq]
      exact RetStep.same HV.out he
    have HFIN := Lib.hid hfin
    clear hfin
    replace c1 := c1 w2 he12
    replace g2 := g2 w2 he12
    have hr0 := Ext.refl w2
    cases B1 : nameB k
    · have hq : Hid (r = 4) := by rw [Hid, HR2.out, if_pos B1]
      go_wp2_with (fail)
      go_ret2
      exact HFIN.out 4 (by decide) hq.out _ he12
    · rw [if_neg (by rw [B1]; simp)] at HR2
      cases T1 : decide (un < V.day)
      · cases T2 : decide (1000000 < un)
        · cases T3 : decide (2000 < (t.size : Int))
          · cases T4 : decide (30 ≤ (c.recs.length : Int))
            · have hq : Hid (r = 0) := by
                simp at T1 T2 T3 T4
                rw [Hid, HR2.out, if_neg (by omega), if_neg (by omega), if_neg (by omega)]
              clear h0 h1
              go_upto_region 12 with fail
              have HQ4 : Hid (recsN V.p n ≤ 30 ∧ t.size ≤ 2000 ∧ recsN V.p n = c.recs.length) := by
                rw [Hid, HRN.out]; simp at T3; exact ⟨hrl, by omega, rfl⟩
              go_still_tail 14, (by kernel_rfl)
              change wpList _ _ _ _ _ (World.drew w2)
              have he3 := he12.trans hr0.drew
              clear c1 g2 hr0 hrl
              generalize w2.drew = w3 at *
              go_wp2_with fail
              generalize hw4 : World.alloc _ _ = w4
              obtain ⟨he4, o1, -⟩ := alloc1 hw4
              have o1s : w4.heap[w3.heap.size]? = some (.cells (lcells ⟨sealL0 V.p n k un, none, 0⟩) 59 (0, 0)) := by
                have hwr : wrap64 ((c.recs.length : Int) + 1) = (c.recs.length : Int) + 1 := wrap64_id (by have := HQ4.out; omega) (by have := HQ4.out; omega)
                rw [o1, hwr]; simp only [lcells, sealL0, HQ4.out.2.2]; rfl
              have h34 := he3.trans he4
              have hok0 := sealL0_ok (n := n) (k := k) (un := un) HG.out HQ4.out.1 HN.out HK.out H0.out H1.out
              have hsh := shut_any (keyN n p) w3.heap.size (sealL0 V.p n k un) t w4 (p61_64 (keyN_lt _ _)) hok0 rfl o1s HQ4.out.2.1
              have HSH := Lib.hid hsh; have HO0 := Lib.hid hok0; have HLT := Lib.hid (lt_of_block o1)
              clear hsh hok0 o1 o1s hw4
              with_reducible refine HSH.out.mono ?_
              rintro e w5 ⟨rfl, ba, bc, hx, hla, hbc, hba⟩
              have hq5 : Calls Try.prog 65 #[ptr V.vb, ptr w3.heap.size] w5 (AddPost V ⟨w3.heap.size, ⟨sealL V.p n p k un t, ba, bc⟩⟩ w) :=
                add_shut V w3.heap.size (sealL V.p n p k un t) ba bc w w4 w5 HH.out HG.out h34 he3.size HLT.out hx hla (sealed_ok HO0.out HQ4.out.2.1) hbc hba (sealed_body HQ4.out.2.1).1 (seal_could (HR.out.symm.trans hq.out))
              have HQ5 := Lib.hid hq5
              clear hq5 hx hla hbc hba HSH
              go_wp2_with (fail)
              with_reducible refine HQ5.out.mono ?_
              intro e w6 hpost
              have HP := Lib.hid hpost
              obtain rfl := hpost.1
              obtain ⟨cn, hcb⟩ := hpost.link
              obtain ⟨l0, l1, l2, l3, l4, l5, l6, l7, l8, l9⟩ := obj_cells10 hcb
              have l3b : w6.cell? ⟨w3.heap.size, 3, none⟩ = some (.int .i64 ((c.recs.length : Int) + 1)) := by
                rw [← HQ4.out.2.2]; exact l3 w6 (Ext.refl _)
              clear hpost hcb l0 l1 l2 l3 l4 l5 l6 l7 l8 l9
              go_wp2_with (fail)
              go_ret2
              have := HP.out.step v
              rw [HS.out, sealS, if_pos (HR.out.symm.trans hq.out)]
              rw [HVV.out, if_pos hq.out, hq.out, HQ4.out.2.2] at this
              rw [HVV.out, if_pos hq.out, hq.out, HQ4.out.2.2]
              exact this
            · have hq : Hid (r = 8) := by
                simp at T1 T2 T3 T4
                rw [Hid, HR2.out, if_neg (by omega), if_neg (by omega), if_pos (by omega)]
              go_wp2_with (fail)
              go_ret2
              exact HFIN.out 8 (by decide) hq.out _ he12
          · have hq : Hid (r = 5) := by
              simp at T1 T2 T3
              rw [Hid, HR2.out, if_neg (by omega), if_pos (by omega)]
            go_wp2_with (fail)
            go_ret2
            exact HFIN.out 5 (by decide) hq.out _ he12
        · have hq : Hid (r = 3) := by
            simp at T1 T2
            rw [Hid, HR2.out, if_pos (by omega)]
          go_wp2_with (fail)
          go_ret2
          exact HFIN.out 3 (by decide) hq.out _ he12
      · have hq : Hid (r = 3) := by
          simp at T1
          rw [Hid, HR2.out, if_pos (by omega)]
        go_wp2_with (fail)
        go_ret2
        exact HFIN.out 3 (by decide) hq.out _ he12
  · have hq : Hid (r = enterR V.p n p) := by rw [Hid, HR.out, sealE, if_pos T0]
    rw [enterV_bad T0]
    have T : (enterR V.p n p != 0) = true := by simpa using T0
    have HT0 := Lib.hid T0
    clear T0
    generalize enterR V.p n p = r0 at *
    go_wp2_with (fail)
    go_ret2
    rw [HBAD.out (by rw [hq.out]; exact HT0.out), HBV.out (by rw [hq.out]; exact HT0.out), hq.out]
    exact RetStep.same HV.out he1
end Go.Proofs.Ytlahejakcgoheaa
end
