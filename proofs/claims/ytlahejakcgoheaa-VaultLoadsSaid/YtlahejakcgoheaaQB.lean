/-
  Plain words: customers whose data do not depend on others'.
-/
import Derived.Test.YtlahejakcgoheaaQA
set_option linter.unusedVariables false
set_option linter.unusedSimpArgs false
namespace Go.Proofs.Ytlahejakcgoheaa
/-- A link without its Chain. -/
def nc (l : Lk) : Lk := withCh l 0
def ncP (c : PC) : PC := { c with recs := c.recs.map (List.map nc), shares := c.shares.map fun q => (q.1, nc q.2) }
theorem nc_chained (S : PV) (l : Lk) : nc (chained S l) = nc l := rfl
theorem fits_nc (key : Nat) (l : Lk) : fitsL key (nc l) = fitsL key l := rfl
theorem ok_nc (key : Nat) (l : Lk) : okL key (nc l) = okL key l := rfl
theorem text_nc (key : Nat) (l : Lk) : textB key (nc l) = textB key l := rfl
theorem fits_eq {key : Nat} {l m : Lk} (h : nc l = nc m) : fitsL key l = fitsL key m := by rw [← fits_nc, h, fits_nc]
theorem ok_eq {key : Nat} {l m : Lk} (h : nc l = nc m) : okL key l = okL key m := by rw [← ok_nc, h, ok_nc]
theorem text_eq {key : Nat} {l m : Lk} (h : nc l = nc m) : textB key l = textB key m := by rw [← text_nc, h, text_nc]
theorem until_nc (r : List Lk) : untilR (r.map nc) = untilR r := by cases r <;> rfl
theorem getD_map2 (rs : List (List Lk)) (i : Nat) : (rs.map (List.map nc)).getD i [] = (rs.getD i []).map nc := by
  simp only [List.getD_eq_getElem?_getD, List.getElem?_map]
  cases rs[i]? <;> rfl
theorem getD_nc (r : List Lk) (i : Nat) : (r.map nc).getD i Lk.nil = nc (r.getD i Lk.nil) := by
  simp only [List.getD_eq_getElem?_getD, List.getElem?_map]
  cases r[i]? <;> rfl
theorem find_nc (c : PC) (n d : Int) : findR (ncP c) n d = ((findR c n d).1.map nc, (findR c n d).2) := by
  unfold findR
  have hl : (ncP c).recs.length = c.recs.length := by simp [ncP]
  have hg : ∀ i, (ncP c).recs.getD i [] = (c.recs.getD i []).map nc := fun i => getD_map2 c.recs i
  rw [hl, hg, until_nc]
  split
  · rfl
  · split <;> rfl
theorem putShare_nc (k : Int × ByteArray) (l : Lk) (ss : List ((Int × ByteArray) × Lk)) : (putShare k l ss).map (fun q => (q.1, nc q.2)) = putShare k (nc l) (ss.map fun q => (q.1, nc q.2)) := by
  induction ss with
  | nil => rfl
  | cons p ps ih =>
    simp only [putShare, List.map_cons]
    by_cases h : p.1 = k
    · rw [if_pos h, if_pos h]; rfl
    · rw [if_neg h, if_neg h, List.map_cons, ih]
theorem putC_nc (l : Lk) (c : PC) : ncP (putC l c) = putC (nc l) (ncP c) := by
  have ho : (nc l).op = l.op := rfl
  have hn : (nc l).nu = l.nu := rfl
  have hk : (nc l).ki = l.ki := rfl
  unfold putC
  rw [ho, hn, hk]
  split
  · simp [ncP]
  · split
    · simp only [ncP, List.map_set, List.map_append, List.map_cons, List.map_nil, PC.mk.injEq, and_true, true_and]
      congr 1
      rw [getD_map2]
    · simp [ncP, putShare_nc]
theorem putC_eq {l m : Lk} {c d : PC} (h : nc l = nc m) (k : ncP c = ncP d) : ncP (putC l c) = ncP (putC m d) := by rw [putC_nc, putC_nc, h, k]
theorem find_map (cs : List PC) (n : ByteArray) (f : PC → PC) (hf : ∀ c, (f c).name = c.name) : (cs.map f).find? (fun c => decide (c.name = n)) = (cs.find? fun c => decide (c.name = n)).map f := by
  induction cs with
  | nil => rfl
  | cons c cs ih =>
    simp only [List.map_cons, List.find?_cons, hf]
    cases decide (c.name = n) <;> simp [ih]
theorem putS_find (S : PV) (l : Lk) (h1 : ¬ l.op = 1) (h2 : ¬ l.op = 2) (n : ByteArray) : (putS S l).find n = (S.find n).map fun c => if c.name = l.cu then putC l c else c := by
  unfold PV.find putS
  rw [if_neg h1, if_neg h2]
  refine find_map _ _ _ fun c => ?_
  split
  · exact putC_name l c
  · rfl
theorem putS_cus (S : PV) (l : Lk) (h1 : ¬ l.op = 1) (h2 : ¬ l.op = 2) : (putS S l).cus = S.cus.map fun c => if c.name = l.cu then putC l c else c := by
  unfold putS; rw [if_neg h1, if_neg h2]
theorem putS_day (S : PV) (l : Lk) (h1 : ¬ l.op = 1) (h2 : ¬ l.op = 2) : (putS S l).day = S.day ∧ (putS S l).adv = S.adv := by
  unfold putS; rw [if_neg h1, if_neg h2]; exact ⟨rfl, rfl⟩
def idsP (S : PV) : List (ByteArray × Nat) := S.cus.map fun c => (c.name, c.proof)
theorem putS_ids (S : PV) (l : Lk) (h1 : ¬ l.op = 1) (h2 : ¬ l.op = 2) : idsP (putS S l) = idsP S := by
  unfold idsP
  rw [putS_cus S l h1 h2, List.map_map]
  refine List.map_congr_left fun c _ => ?_
  simp only [Function.comp]
  split
  · rw [putC_name, putC_proof]
  · rfl
/-- Two vaults that look the same to the customers of G, and to 'mine' whose shares the others do not make. -/
structure Rel (G : ByteArray → Bool) (mine : ByteArray) (S T : PV) : Prop where
  day : S.day = T.day
  adv : S.adv = T.adv
  ids : idsP S = idsP T
  own : ∀ n, G n = true → (S.find n).map ncP = (T.find n).map ncP
  shS : ∀ c ∈ S.cus, G c.name = false → ∀ q ∈ c.shares, q.1.2 ≠ mine
  shT : ∀ c ∈ T.cus, G c.name = false → ∀ q ∈ c.shares, q.1.2 ≠ mine
theorem Rel.new (G : ByteArray → Bool) (mine : ByteArray) : Rel G mine PV.new PV.new := ⟨rfl, rfl, rfl, fun _ _ => rfl, by simp [PV.new], by simp [PV.new]⟩
section
variable {G : ByteArray → Bool} {mine : ByteArray} {S T : PV}
theorem Rel.cases (R : Rel G mine S T) {n : ByteArray} (h : G n = true) : (S.find n = none ∧ T.find n = none) ∨ ∃ c d, S.find n = some c ∧ T.find n = some d ∧ ncP c = ncP d := by
  have := R.own n h
  cases h1 : S.find n with
  | none =>
    rw [h1] at this
    cases h2 : T.find n with
    | none => exact .inl ⟨rfl, rfl⟩
    | some d => rw [h2] at this; cases this
  | some c =>
    rw [h1] at this
    cases h2 : T.find n with
    | none => rw [h2] at this; cases this
    | some d => rw [h2] at this; exact .inr ⟨c, d, rfl, rfl, Option.some.inj this⟩
theorem find_isSome (S : PV) (n : ByteArray) : (S.find n).isSome = (idsP S).any fun q => decide (q.1 = n) := by
  unfold PV.find idsP
  induction S.cus with
  | nil => rfl
  | cons c cs ih =>
    simp only [List.find?_cons, List.map_cons, List.any_cons]
    cases decide (c.name = n) <;> simp [ih]
theorem Rel.isS (R : Rel G mine S T) (n : ByteArray) : (S.find n).isSome = (T.find n).isSome := by rw [find_isSome, find_isSome, R.ids]
theorem Rel.len (R : Rel G mine S T) : S.cus.length = T.cus.length := by
  have := congrArg List.length R.ids
  simpa [idsP] using this
theorem Rel.enter (R : Rel G mine S T) {n : ByteArray} (h : G n = true) (p : ByteArray) : enterR S n p = enterR T n p := by
  unfold enterR
  rcases R.cases h with ⟨e1, e2⟩ | ⟨c, d, e1, e2, e⟩ <;> rw [e1, e2]
  have : (ncP c).proof = (ncP d).proof := congrArg PC.proof e
  have : c.proof = d.proof := this
  simp only [this]
theorem Rel.recsN (R : Rel G mine S T) {n : ByteArray} (h : G n = true) : recsN S n = recsN T n := by
  unfold Ytlahejakcgoheaa.recsN
  rcases R.cases h with ⟨e1, e2⟩ | ⟨c, d, e1, e2, e⟩ <;> rw [e1, e2]
  have := congrArg (fun c => (PC.recs c).length) e
  simpa [ncP] using this
theorem Rel.made (R : Rel G mine S T) {n : ByteArray} (h : G n = true) : madeN S n = madeN T n := by
  unfold Ytlahejakcgoheaa.madeN
  rcases R.cases h with ⟨e1, e2⟩ | ⟨c, d, e1, e2, e⟩ <;> rw [e1, e2]
  have : (ncP c).made = (ncP d).made := congrArg PC.made e
  exact this
theorem Rel.recAt (R : Rel G mine S T) {n : ByteArray} (h : G n = true) (num : Int) : (recAt S n num).1.map nc = (recAt T n num).1.map nc ∧ (recAt S n num).2 = (recAt T n num).2 := by
  unfold Ytlahejakcgoheaa.recAt
  rcases R.cases h with ⟨e1, e2⟩ | ⟨c, d, e1, e2, e⟩ <;> rw [e1, e2]
  · exact ⟨rfl, rfl⟩
  · have h1 := find_nc c num S.day
    have h2 := find_nc d num S.day
    rw [e, h2] at h1
    simp only [Prod.mk.injEq] at h1
    rw [← R.day]
    exact ⟨h1.1.symm, h1.2.symm⟩
theorem Rel.recLen (R : Rel G mine S T) {n : ByteArray} (h : G n = true) (num : Int) : (Ytlahejakcgoheaa.recAt S n num).1.length = (Ytlahejakcgoheaa.recAt T n num).1.length := by
  have := congrArg List.length (R.recAt h num).1
  simpa using this
theorem Rel.openR (R : Rel G mine S T) {n : ByteArray} (h : G n = true) (p : ByteArray) (num ver : Int) : openR S n p num ver = openR T n p num ver := by
  unfold Ytlahejakcgoheaa.openR
  rw [R.enter h p, (R.recAt h num).2, R.recLen h num]
  have hk : ∀ i, nc ((Ytlahejakcgoheaa.recAt S n num).1.getD i Lk.nil) = nc ((Ytlahejakcgoheaa.recAt T n num).1.getD i Lk.nil) := fun i => by
    rw [← getD_nc, ← getD_nc, (R.recAt h num).1]
  simp only [fits_eq (hk _), ok_eq (hk _), text_eq (hk _)]
theorem entry_nc (day : Int) (i : Nat) (r : List Lk) : entryOf day i (r.map nc) = entryOf day i r := by
  unfold entryOf
  rw [until_nc, List.length_map, getD_nc]; rfl
theorem entries_nc (day : Int) (rs : List (List Lk)) : entries day (rs.map (List.map nc)) = entries day rs := by
  unfold entries
  rw [List.length_map]
  refine List.map_congr_left fun i _ => ?_
  rw [getD_map2, entry_nc]
theorem Rel.listR (R : Rel G mine S T) {n : ByteArray} (h : G n = true) (p : ByteArray) : listR S n p = listR T n p := by
  unfold Ytlahejakcgoheaa.listR
  rw [R.enter h p]
  split
  · rfl
  · rcases R.cases h with ⟨e1, e2⟩ | ⟨c, d, e1, e2, e⟩ <;> rw [e1, e2]
    have : entries S.day c.recs = entries T.day d.recs := by
      rw [← entries_nc, ← entries_nc T.day, R.day]
      exact congrArg (fun c => entries T.day (PC.recs c)) e
    simp only [this]
theorem Rel.sealE (R : Rel G mine S T) {n : ByteArray} (h : G n = true) (p k : ByteArray) (un : Int) (t : ByteArray) : sealE S n p k un t = sealE T n p k un t := by
  unfold Ytlahejakcgoheaa.sealE
  rw [R.enter h p, R.day, R.recsN h]
theorem Rel.sealL (R : Rel G mine S T) {n : ByteArray} (h : G n = true) (p k : ByteArray) (un : Int) (t : ByteArray) : sealL S n p k un t = sealL T n p k un t := by
  unfold Ytlahejakcgoheaa.sealL sealL0
  rw [R.day, R.recsN h]
theorem Rel.revE (R : Rel G mine S T) {n : ByteArray} (h : G n = true) (p : ByteArray) (num : Int) (t : ByteArray) : revE S n p num t = revE T n p num t := by
  unfold Ytlahejakcgoheaa.revE
  rw [R.enter h p, (R.recAt h num).2, R.recLen h num]
theorem Rel.revL (R : Rel G mine S T) {n : ByteArray} (h : G n = true) (p : ByteArray) (num : Int) (t : ByteArray) : revL S n p num t = revL T n p num t := by
  unfold Ytlahejakcgoheaa.revL revL0
  rw [R.day, R.recLen h num]
theorem Rel.relE (R : Rel G mine S T) {n : ByteArray} (h : G n = true) (p : ByteArray) (num : Int) (tu sh : ByteArray) : relE S n p num tu sh = relE T n p num tu sh := by
  unfold Ytlahejakcgoheaa.relE
  rw [R.openR h p num 0, R.isS tu, R.made h]
theorem Rel.relL (R : Rel G mine S T) {n : ByteArray} (h : G n = true) (p : ByteArray) (num : Int) (tu sh : ByteArray) : relL S n p num tu sh = relL T n p num tu sh := by
  unfold Ytlahejakcgoheaa.relL relL0
  rw [R.openR h p num 0, R.day]
theorem Rel.enrolE (R : Rel G mine S T) (n p : ByteArray) : enrolE S n p = enrolE T n p := by
  unfold Ytlahejakcgoheaa.enrolE
  rw [R.isS n, R.len]
theorem Rel.advE (R : Rel G mine S T) (d : Int) : advE S d = advE T d := by
  unfold Ytlahejakcgoheaa.advE
  rw [R.day, R.adv]
theorem share_none (c : PC) (k : Int × ByteArray) (h : ∀ q ∈ c.shares, q.1.2 ≠ k.2) : shareOf c k = none := by
  unfold shareOf
  rw [Option.map_eq_none_iff, List.find?_eq_none]
  intro q hq e
  exact h q hq (by rw [of_decide_eq_true e])
theorem share_nc (c : PC) (k : Int × ByteArray) : shareOf (ncP c) k = (shareOf c k).map nc := by
  unfold shareOf ncP
  simp only
  induction c.shares with
  | nil => rfl
  | cons q qs ih =>
    simp only [List.map_cons, List.find?_cons]
    cases decide (q.1 = k)
    · exact ih
    · rfl
theorem Rel.share (R : Rel G mine S T) (fr : ByteArray) (num : Int) : (shareAt S fr (num, mine)).map nc = (shareAt T fr (num, mine)).map nc ∧ (G fr = false → shareAt S fr (num, mine) = none) := by
  cases hG : G fr with
  | true =>
    refine ⟨?_, fun e => by cases e⟩
    unfold shareAt
    rcases R.cases hG with ⟨e1, e2⟩ | ⟨c, d, e1, e2, e⟩ <;> rw [e1, e2]
    simp only [← share_nc, e]
  | false =>
    have h1 : shareAt S fr (num, mine) = none := by
      unfold shareAt
      cases e : S.find fr with
      | none => rfl
      | some c =>
        obtain ⟨hm, hn⟩ := find_mem e
        exact share_none c _ (R.shS c hm (by rw [hn]; exact hG))
    have h2 : shareAt T fr (num, mine) = none := by
      unfold shareAt
      cases e : T.find fr with
      | none => rfl
      | some c =>
        obtain ⟨hm, hn⟩ := find_mem e
        exact share_none c _ (R.shT c hm (by rw [hn]; exact hG))
    rw [h1, h2]
    exact ⟨rfl, fun _ => rfl⟩
theorem Rel.borR (R : Rel G mine S T) (hm : G mine = true) (p fr : ByteArray) (num : Int) (sh : ByteArray) : borR S mine p fr num sh = borR T mine p fr num sh := by
  obtain ⟨h1, h2⟩ := R.share fr num
  unfold Ytlahejakcgoheaa.borR
  rw [R.enter hm p]
  split
  · rfl
  · cases e1 : shareAt S fr (num, mine) with
    | none =>
      rw [e1] at h1
      cases e2 : shareAt T fr (num, mine) with
      | none => rfl
      | some m => rw [e2] at h1; cases h1
    | some l =>
      rw [e1] at h1
      cases e2 : shareAt T fr (num, mine) with
      | none => rw [e2] at h1; cases h1
      | some m =>
        rw [e2] at h1
        have e : nc l = nc m := Option.some.inj h1
        have hG : G fr = true := by
          cases hG : G fr with
          | true => rfl
          | false => rw [h2 hG] at e1; cases e1
        simp only [fits_eq e, ok_eq e, text_eq e, (R.recAt hG num).2]
theorem Rel.res (R : Rel G mine S T) (hG : G mine = true) (o : Op) (hm : o.name = mine) : playR S o = playR T o := by
  subst hm
  unfold playR
  rw [R.enrolE, R.advE, R.sealE hG, R.recsN hG, R.revE hG, R.recLen hG, R.openR hG, R.listR hG, R.relE hG, R.borR hG]
/-! ### what calls leave -/
theorem Rel.put (R : Rel G mine S T) {l m : Lk} (h1 : ¬ l.op = 1) (h2 : ¬ l.op = 2) (e : nc l = nc m) (hG : G l.cu = true) : Rel G mine (putS S l) (putS T m) := by
  have ho : m.op = l.op := (congrArg Lk.op e).symm
  have hc : m.cu = l.cu := (congrArg Lk.cu e).symm
  have h1' : ¬ m.op = 1 := by rw [ho]; exact h1
  have h2' : ¬ m.op = 2 := by rw [ho]; exact h2
  obtain ⟨d1, a1⟩ := putS_day S l h1 h2
  obtain ⟨d2, a2⟩ := putS_day T m h1' h2'
  refine ⟨by rw [d1, d2, R.day], by rw [a1, a2, R.adv], by rw [putS_ids S l h1 h2, putS_ids T m h1' h2', R.ids], fun n hn => ?_, fun c hc1 hc2 => ?_, fun c hc1 hc2 => ?_⟩
  · rw [putS_find S l h1 h2, putS_find T m h1' h2', hc]
    rcases R.cases hn with ⟨e1, e2⟩ | ⟨c, d, e1, e2, e3⟩ <;> rw [e1, e2]
    · rfl
    · have hnm0 : (ncP c).name = (ncP d).name := congrArg PC.name e3
      have hnm : c.name = d.name := hnm0
      simp only [Option.map_some, hnm]
      split
      · rw [putC_eq e e3]
      · rw [e3]
  · rw [putS_cus S l h1 h2] at hc1
    obtain ⟨c0, hc0, rfl⟩ := List.mem_map.1 hc1
    by_cases q : c0.name = l.cu
    · rw [if_pos q, putC_name, q, hG] at hc2; cases hc2
    · rw [if_neg q] at hc2 ⊢
      exact R.shS c0 hc0 hc2
  · rw [putS_cus T m h1' h2', hc] at hc1
    obtain ⟨c0, hc0, rfl⟩ := List.mem_map.1 hc1
    by_cases q : c0.name = l.cu
    · rw [if_pos q, putC_name, q, hG] at hc2; cases hc2
    · rw [if_neg q] at hc2 ⊢
      exact R.shT c0 hc0 hc2
theorem putShare_mem {k : Int × ByteArray} {l : Lk} {ss : List ((Int × ByteArray) × Lk)} {q : (Int × ByteArray) × Lk} (h : q ∈ putShare k l ss) : q = (k, l) ∨ q ∈ ss := by
  induction ss with
  | nil => simp [putShare] at h; exact .inl h
  | cons p ps ih =>
    simp only [putShare] at h
    split at h
    · rcases List.mem_cons.1 h with h | h
      · exact .inl h
      · exact .inr (List.mem_cons_of_mem _ h)
    · rcases List.mem_cons.1 h with h | h
      · exact .inr (h ▸ List.mem_cons_self)
      · rcases ih h with h | h
        · exact .inl h
        · exact .inr (List.mem_cons_of_mem _ h)
theorem Rel.putSkip (R : Rel G mine S T) {l : Lk} (h1 : ¬ l.op = 1) (h2 : ¬ l.op = 2) (hG : G l.cu = false) (h5 : l.op = 3 ∨ l.op = 4 ∨ l.ki ≠ mine) : Rel G mine (putS S l) T := by
  obtain ⟨d1, a1⟩ := putS_day S l h1 h2
  refine ⟨by rw [d1, R.day], by rw [a1, R.adv], by rw [putS_ids S l h1 h2, R.ids], fun n hn => ?_, fun c hc1 hc2 => ?_, R.shT⟩
  · rw [putS_find S l h1 h2, ← R.own n hn]
    cases e : S.find n with
    | none => rfl
    | some c =>
      have hne : ¬ c.name = l.cu := fun q => by rw [← q, (find_mem e).2, hn] at hG; cases hG
      simp only [Option.map_some, if_neg hne]
  · rw [putS_cus S l h1 h2] at hc1
    obtain ⟨c0, hc0, rfl⟩ := List.mem_map.1 hc1
    by_cases q : c0.name = l.cu
    · rw [if_pos q] at hc2 ⊢
      rw [putC_name] at hc2
      have hold := R.shS c0 hc0 hc2
      unfold putC
      split
      · exact hold
      · split
        · exact hold
        · intro s hs
          rcases putShare_mem hs with rfl | hs
          · rcases h5 with h5 | h5 | h5
            · rename_i q1 q2; exact absurd h5 q1
            · rename_i q1 q2; exact absurd h5 q2
            · exact h5
          · exact hold s hs
    · rw [if_neg q] at hc2 ⊢
      exact R.shS c0 hc0 hc2
theorem Rel.enrol (R : Rel G mine S T) (n p : ByteArray) : Rel G mine (enrolS S n p) (enrolS T n p) := by
  unfold enrolS
  rw [R.enrolE]
  split
  · have e : ∀ S : PV, putS S (chained S (enrolL n p)) = { S with cus := S.cus ++ [⟨n, proofN (keyN n p), [], 0, []⟩], chain := S.chain ++ [chained S (enrolL n p)] } := fun S => by
      unfold putS; rw [if_pos (show (chained S (enrolL n p)).op = 1 from rfl)]; rfl
    rw [e, e]
    refine ⟨R.day, R.adv, ?_, fun m hm => ?_, fun c hc hg => ?_, fun c hc hg => ?_⟩
    · have := R.ids
      unfold idsP at this ⊢
      simp only [List.map_append, this]
    · have := R.own m hm
      unfold PV.find at this ⊢
      simp only [List.find?_append, Option.map_or, this]
    · rcases List.mem_append.1 hc with hc | hc
      · exact R.shS c hc hg
      · simp at hc; subst hc; simp
    · rcases List.mem_append.1 hc with hc | hc
      · exact R.shT c hc hg
      · simp at hc; subst hc; simp
  · exact R
theorem Rel.adv' (R : Rel G mine S T) (d : Int) : Rel G mine (advS S d) (advS T d) := by
  unfold advS
  rw [R.advE]
  split
  · have e : ∀ S : PV, putS S (chained S (advL d)) = { S with day := d, adv := S.adv + 1, chain := S.chain ++ [chained S (advL d)] } := fun S => by
      unfold putS; rw [if_neg (show ¬ (chained S (advL d)).op = 1 by show ¬ (2 : Nat) = 1; omega), if_pos (show (chained S (advL d)).op = 2 from rfl)]; rfl
    rw [e, e]
    exact ⟨rfl, by simp only [R.adv], R.ids, R.own, R.shS, R.shT⟩
  · exact R
theorem Rel.play (R : Rel G mine S T) (o : Op) (h : o.kind ≤ 2 ∨ G o.name = true) : Rel G mine (playS S o) (playS T o) := by
  unfold playS
  by_cases k1 : o.kind = 1
  · rw [if_pos k1, if_pos k1]; exact R.enrol _ _
  · rw [if_neg k1, if_neg k1]
    by_cases k2 : o.kind = 2
    · rw [if_pos k2, if_pos k2]; exact R.adv' _
    · rw [if_neg k2, if_neg k2]
      by_cases k3 : o.kind = 3
      · rw [if_pos k3, if_pos k3]
        have hG : G o.name = true := by rcases h with h | h; omega; exact h
        unfold sealS
        rw [R.sealE hG, R.sealL hG]
        split
        · exact R.put (by show ¬ (3 : Nat) = 1; omega) (by show ¬ (3 : Nat) = 2; omega) (by rw [nc_chained, nc_chained]) hG
        · exact R
      · rw [if_neg k3, if_neg k3]
        by_cases k4 : o.kind = 4
        · rw [if_pos k4, if_pos k4]
          have hG : G o.name = true := by rcases h with h | h; omega; exact h
          unfold revS
          rw [R.revE hG, R.revL hG]
          split
          · exact R.put (by show ¬ (4 : Nat) = 1; omega) (by show ¬ (4 : Nat) = 2; omega) (by rw [nc_chained, nc_chained]) hG
          · exact R
        · rw [if_neg k4, if_neg k4]
          by_cases k7 : o.kind = 7
          · rw [if_pos k7, if_pos k7]
            have hG : G o.name = true := by rcases h with h | h; omega; exact h
            unfold relS
            rw [R.relE hG, R.relL hG]
            split
            · exact R.put (by show ¬ (5 : Nat) = 1; omega) (by show ¬ (5 : Nat) = 2; omega) (by rw [nc_chained, nc_chained]) hG
            · exact R
          · rw [if_neg k7, if_neg k7]; exact R
theorem Rel.skip (R : Rel G mine S T) (o : Op) (h : 2 < o.kind) (hG : G o.name = false) (h7 : o.kind = 7 → o.other ≠ mine) : Rel G mine (playS S o) T := by
  unfold playS
  rw [if_neg (by omega), if_neg (by omega)]
  by_cases k3 : o.kind = 3
  · rw [if_pos k3]
    unfold sealS
    split
    · exact R.putSkip (by show ¬ (3 : Nat) = 1; omega) (by show ¬ (3 : Nat) = 2; omega) hG (.inl rfl)
    · exact R
  · rw [if_neg k3]
    by_cases k4 : o.kind = 4
    · rw [if_pos k4]
      unfold revS
      split
      · exact R.putSkip (by show ¬ (4 : Nat) = 1; omega) (by show ¬ (4 : Nat) = 2; omega) hG (.inr (.inl rfl))
      · exact R
    · rw [if_neg k4]
      by_cases k7 : o.kind = 7
      · rw [if_pos k7]
        unfold relS
        split
        · exact R.putSkip (by show ¬ (5 : Nat) = 1; omega) (by show ¬ (5 : Nat) = 2; omega) hG (.inr (.inr (h7 k7)))
        · exact R
      · rw [if_neg k7]; exact R
end
end Go.Proofs.Ytlahejakcgoheaa
