/-
  Plain words: what a vault keeps is what its chain says.
-/
import Derived.Test.YtlahejakcgoheaaRI3
import Derived.Test.YtlahejakcgoheaaQC
set_option linter.unusedVariables false
set_option linter.unusedSimpArgs false
namespace Go.Proofs.Ytlahejakcgoheaa
open Go.RowKit
/-- The versions of a record. -/
def versC (c : PC) (num : Int) : List Lk := if num < 1 ∨ (c.recs.length : Int) < num then [] else c.recs.getD (num - 1).toNat []
/-- What a chain says of a customer. -/
structure Said (c : PC) (ls : List Lk) : Prop where
  at0 : 0 ≤ cusAt c.name ls
  tag : (ls.getD (cusAt c.name ls).toNat Lk.nil).tag = c.proof
  vers : ∀ num, versL c.name num ls = versC c num
  made : (madeL c.name ls : Int) = c.made
  last : ∀ num tu, lastL c.name num tu ls = (shareOf c (num, tu)).toList
  shr : ∀ q ∈ c.shares, ¬ (q.1.1 < 1 ∨ (c.recs.length : Int) < q.1.1)
/-- What a chain says of a name that no customer has. -/
structure Unsaid (n : ByteArray) (ls : List Lk) : Prop where
  at0 : cusAt n ls < 0
  vers : ∀ num, versL n num ls = []
  made : madeL n ls = 0
  last : ∀ num tu, lastL n num tu ls = []
structure SaidS (S : PV) : Prop where
  day : dayL S.chain = S.day
  adv : (advN S.chain : Int) = S.adv
  cus : cusN S.chain = S.cus.length
  yes : ∀ c ∈ S.cus, Said c S.chain
  no : ∀ n, S.find n = none → Unsaid n S.chain
  body : ∀ l ∈ S.chain, l.op = 3 ∨ l.op = 4 ∨ l.op = 5 → l.bo.length % 32 = 0 ∧ l.bo.length ≤ 2016
theorem cusF_len (nm : ByteArray) (ls : List Lk) : (cusF nm ls).1 = ls.length := by
  have := cusF_take nm ls.length ls (Nat.le_refl _)
  rwa [List.take_length] at this
theorem cusAt_snoc (nm : ByteArray) (ls : List Lk) (l : Lk) : cusAt nm (ls ++ [l]) = if l.op = 1 ∧ l.cu = nm then (ls.length : Int) else cusAt nm ls := by
  unfold cusAt; rw [cusF_snoc, cusF_len]
/-- A link that is not of this name tells nothing of it. -/
theorem Unsaid.skip {n : ByteArray} {ls : List Lk} {l : Lk} (h : Unsaid n ls) (hn : l.cu ≠ n ∨ l.op = 2) : Unsaid n (ls ++ [l]) := by
  have h1 : ¬ (l.op = 1 ∧ l.cu = n) := fun q => hn.elim (fun e => e q.2) (fun e => by omega)
  refine ⟨?_, fun num => ?_, ?_, fun num tu => ?_⟩
  · rw [cusAt_snoc, if_neg h1]; exact h.at0
  · rw [versL_snoc, if_neg, h.vers]
    intro q
    simp only [Bool.and_eq_true, Bool.or_eq_true, beq_iff_eq, decide_eq_true_eq] at q
    exact hn.elim (fun e => e q.2.1) (fun e => by omega)
  · rw [madeL_snoc, if_neg, h.made]
    intro q
    simp only [Bool.and_eq_true, Bool.not_eq_true', bne_eq_false_iff_eq, decide_eq_true_eq] at q
    exact hn.elim (fun e => e q.2) (fun e => by omega)
  · rw [lastL_snoc, if_neg, h.last]
    intro q
    simp only [Bool.and_eq_true, Bool.not_eq_true', bne_eq_false_iff_eq, decide_eq_true_eq] at q
    exact hn.elim (fun e => e q.1.2) (fun e => by omega)
theorem getD_app {ls : List Lk} {l : Lk} {k : Nat} (h : k < ls.length) : (ls ++ [l]).getD k Lk.nil = ls.getD k Lk.nil := by
  rw [List.getD_eq_getElem?_getD, List.getElem?_append_left h, ← List.getD_eq_getElem?_getD]
theorem Said.skip {c : PC} {ls : List Lk} {l : Lk} (h : Said c ls) (hn : l.cu ≠ c.name ∨ l.op = 2) : Said c (ls ++ [l]) := by
  have h1 : ¬ (l.op = 1 ∧ l.cu = c.name) := fun q => hn.elim (fun e => e q.2) (fun e => by omega)
  have hc := cusAt_lt c.name ls
  have h0 := h.at0
  refine ⟨?_, ?_, fun num => ?_, ?_, fun num tu => ?_, h.shr⟩
  · rw [cusAt_snoc, if_neg h1]; exact h0
  · rw [cusAt_snoc, if_neg h1, getD_app (by omega)]; exact h.tag
  · rw [versL_snoc, if_neg, h.vers]
    intro q
    simp only [Bool.and_eq_true, Bool.or_eq_true, beq_iff_eq, decide_eq_true_eq] at q
    exact hn.elim (fun e => e q.2.1) (fun e => by omega)
  · rw [madeL_snoc, if_neg, h.made]
    intro q
    simp only [Bool.and_eq_true, Bool.not_eq_true', bne_eq_false_iff_eq, decide_eq_true_eq] at q
    exact hn.elim (fun e => e q.2) (fun e => by omega)
  · rw [lastL_snoc, if_neg, h.last]
    intro q
    simp only [Bool.and_eq_true, Bool.not_eq_true', bne_eq_false_iff_eq, decide_eq_true_eq] at q
    exact hn.elim (fun e => e q.1.2) (fun e => by omega)
theorem shareOf_put (k k' : Int × ByteArray) (l : Lk) (ss : List ((Int × ByteArray) × Lk)) : ((putShare k l ss).find? fun q => decide (q.1 = k')).map Prod.snd = if k = k' then some l else (ss.find? fun q => decide (q.1 = k')).map Prod.snd := by
  induction ss with
  | nil =>
    simp only [putShare, List.find?_cons, List.find?_nil]
    by_cases e : k = k'
    · simp [e]
    · simp [e]
  | cons p ps ih =>
    simp only [putShare]
    by_cases q : p.1 = k
    · rw [if_pos q]
      simp only [List.find?_cons]
      by_cases e : k = k'
      · simp [e]
      · have : ¬ p.1 = k' := fun z => e (q ▸ z)
        simp [e, this]
    · rw [if_neg q]
      simp only [List.find?_cons]
      by_cases e : p.1 = k'
      · have : ¬ k = k' := fun z => q (e.trans z.symm)
        simp [e, this]
      · simp only [e, decide_false]; exact ih
theorem putC_3 (l : Lk) (c : PC) (h : l.op = 3) : putC l c = { c with recs := c.recs ++ [[l]] } := by unfold putC; rw [if_pos h]
theorem putC_4 (l : Lk) (c : PC) (h : l.op = 4) : putC l c = { c with recs := c.recs.set (l.nu - 1).toNat (c.recs.getD (l.nu - 1).toNat [] ++ [l]) } := by unfold putC; rw [if_neg (by omega), if_pos h]
theorem putC_5 (l : Lk) (c : PC) (h : l.op = 5) : putC l c = { c with made := c.made + 1, shares := putShare (l.nu, l.ki) l c.shares } := by unfold putC; rw [if_neg (by omega), if_neg (by omega)]
theorem getD_lt {α : Type} {l : List α} {i : Nat} (d : α) (h : i < l.length) : l.getD i d = l[i] := by rw [List.getD_eq_getElem?_getD, List.getElem?_eq_getElem h]; rfl
/-- A link of this customer is put into what is kept. -/
theorem Said.put {S : PV} {c : PC} {ls : List Lk} {l : Lk} (h : Said c ls) (hc : couldB S l = true) (h1 : ¬ l.op = 1) (h2 : ¬ l.op = 2) (hf : S.find l.cu = some c) : Said (putC l c) (ls ++ [l]) := by
  obtain ⟨hm, hn⟩ := find_mem hf
  have hcl := cusAt_lt c.name ls
  have h0 := h.at0
  have hz : ¬ (l.op = 1 ∧ l.cu = c.name) := fun q => h1 q.1
  refine ⟨?_, ?_, fun num => ?_, ?_, fun num tu => ?_, fun q hq => ?_⟩
  · rw [putC_name, cusAt_snoc, if_neg hz]; exact h0
  · rw [putC_name, putC_proof, cusAt_snoc, if_neg hz, getD_app (by omega)]; exact h.tag
  · rw [putC_name, versL_snoc, h.vers]
    rcases plain_345 hc h1 h2 with h3 | h4 | h5
    · obtain ⟨q1, -⟩ := could_3 hc h3 hf
      rw [putC_3 l c h3]
      unfold versC
      by_cases e : l.nu = num
      · rw [if_pos (by simp [h3, hn, e])]
        subst e
        rw [if_pos (by omega), if_neg (by simp; omega)]
        rw [q1, show ((c.recs.length : Int) + 1 - 1).toNat = c.recs.length by omega]
        simp [List.getD_eq_getElem?_getD]
      · rw [if_neg (by simp [e])]
        by_cases z : num < 1 ∨ (c.recs.length : Int) < num
        · rw [if_pos z, if_pos]; simp; omega
        · rw [if_neg z, if_neg (by simp; omega), List.getD_eq_getElem?_getD, List.getD_eq_getElem?_getD, List.getElem?_append_left (by omega)]
    · obtain ⟨r1, r2, -⟩ := findR_ok (could_rec hc h1 h2 (by omega) hf)
      rw [putC_4 l c h4]
      unfold versC
      simp only [List.length_set]
      by_cases e : l.nu = num
      · rw [if_pos (by simp [h4, hn, e])]
        subst e
        rw [if_neg (by omega), if_neg (by omega)]
        rw [getD_lt _ (show (l.nu - 1).toNat < (c.recs.set (l.nu - 1).toNat (c.recs.getD (l.nu - 1).toNat [] ++ [l])).length by rw [List.length_set]; omega), List.getElem_set_self]
      · rw [if_neg (by simp [e])]
        by_cases z : num < 1 ∨ (c.recs.length : Int) < num
        · rw [if_pos z, if_pos z]
        · rw [if_neg z, if_neg z, List.getD_eq_getElem?_getD, List.getD_eq_getElem?_getD, List.getElem?_set, if_neg (by omega)]
    · rw [if_neg (by simp [h5]), putC_5 l c h5]
      rfl
  · rw [putC_name, madeL_snoc]
    have hmd := h.made
    rcases plain_345 hc h1 h2 with h3 | h4 | h5
    · rw [if_neg (by simp [h3]), putC_3 l c h3]; exact hmd
    · rw [if_neg (by simp [h4]), putC_4 l c h4]; exact hmd
    · rw [if_pos (by simp [h5, hn]), putC_5 l c h5]
      show ((madeL c.name ls + 1 : Nat) : Int) = c.made + 1
      omega
  · rw [putC_name, lastL_snoc, h.last]
    rcases plain_345 hc h1 h2 with h3 | h4 | h5
    · rw [if_neg (by simp [h3]), putC_3 l c h3]; rfl
    · rw [if_neg (by simp [h4]), putC_4 l c h4]; rfl
    · rw [putC_5 l c h5]
      unfold shareOf
      show _ = (((putShare (l.nu, l.ki) l c.shares).find? fun q => decide (q.1 = (num, tu))).map Prod.snd).toList
      rw [shareOf_put]
      by_cases e : l.nu = num ∧ l.ki = tu
      · rw [if_pos (by simp [h5, hn, e]), if_pos (by rw [e.1, e.2])]; rfl
      · rw [if_neg (by simp only [h5, hn, Bool.and_eq_true, beq_iff_eq, decide_eq_true_eq]; exact fun q => e q.2), if_neg (by simpa using e)]
  · rcases plain_345 hc h1 h2 with h3 | h4 | h5
    · rw [putC_3 l c h3] at hq ⊢
      have := h.shr q hq
      simp only [List.length_append, List.length_singleton]; omega
    · rw [putC_4 l c h4] at hq ⊢
      have := h.shr q hq
      simp only [List.length_set]; exact this
    · rw [putC_5 l c h5] at hq ⊢
      obtain ⟨r1, r2, -⟩ := findR_ok (could_rec hc h1 h2 (by omega) hf)
      rcases putShare_mem hq with rfl | hq
      · show ¬ (l.nu < 1 ∨ (c.recs.length : Int) < l.nu); omega
      · exact h.shr q hq
theorem SaidS.new : SaidS PV.new := ⟨rfl, rfl, rfl, fun c hc => by simp [PV.new] at hc, fun n _ => ⟨by simp [PV.new, cusAt, cusF], fun _ => rfl, rfl, fun _ _ => rfl⟩, fun l hl => by simp [PV.new] at hl⟩
theorem SaidS.put {S : PV} {l : Lk} (h : SaidS S) (hi : PVInv S) (hc : couldB S l = true) : SaidS (putS S l) := by
  obtain ⟨nd, -⟩ := hi.ok
  by_cases h1 : l.op = 1
  · obtain ⟨q1, q2, q3⟩ := could_1 hc h1
    have hu := h.no _ q2
    rw [putS, if_pos h1]
    refine ⟨?_, ?_, ?_, fun c hc => ?_, fun n hn => ?_, fun x hx ho => ?_⟩
    · show dayL (S.chain ++ [l]) = S.day
      rw [dayL_snoc, if_neg (by omega)]; exact h.day
    · show (advN (S.chain ++ [l]) : Int) = S.adv
      rw [advN_snoc, if_neg (by omega)]; exact h.adv
    · show cusN (S.chain ++ [l]) = (S.cus ++ [_]).length
      rw [cusN_snoc, if_pos h1, h.cus]; simp
    · rcases List.mem_append.1 hc with hc | hc
      · exact (h.yes c hc).skip (.inl fun e => find_none q2 c hc e.symm)
      · simp only [List.mem_singleton] at hc
        subst hc
        have hlen : (S.chain ++ [l]).getD S.chain.length Lk.nil = l := by simp [List.getD_eq_getElem?_getD]
        refine ⟨?_, ?_, fun num => ?_, ?_, fun num tu => ?_, by simp⟩
        · show 0 ≤ cusAt l.cu (S.chain ++ [l])
          rw [cusAt_snoc, if_pos ⟨h1, rfl⟩]; omega
        · show ((S.chain ++ [l]).getD (cusAt l.cu (S.chain ++ [l])).toNat Lk.nil).tag = l.tag
          rw [cusAt_snoc, if_pos ⟨h1, rfl⟩, Int.toNat_natCast, hlen]
        · show versL l.cu num (S.chain ++ [l]) = _
          rw [versL_snoc, if_neg (by simp [h1]), hu.vers]
          unfold versC; rw [if_pos (by simp; omega)]
        · show (madeL l.cu (S.chain ++ [l]) : Int) = 0
          rw [madeL_snoc, if_neg (by simp [h1]), hu.made]; rfl
        · show lastL l.cu num tu (S.chain ++ [l]) = _
          rw [lastL_snoc, if_neg (by simp [h1]), hu.last]; rfl
    · have hne : l.cu ≠ n ∧ S.find n = none := by
        unfold PV.find at hn ⊢
        simp only [List.find?_append, List.find?_cons, List.find?_nil] at hn
        rw [Option.or_eq_none_iff] at hn
        refine ⟨fun e => ?_, hn.1⟩
        have := hn.2
        rw [e] at this
        simp at this
      exact (h.no n hne.2).skip (.inl hne.1)
    · rcases List.mem_append.1 hx with hx | hx
      · exact h.body x hx ho
      · simp only [List.mem_singleton] at hx; subst hx; omega
  · by_cases h2 : l.op = 2
    · rw [putS, if_neg h1, if_pos h2]
      refine ⟨?_, ?_, ?_, fun c hc => (h.yes c hc).skip (.inr h2), fun n hn => (h.no n hn).skip (.inr h2), fun x hx ho => ?_⟩
      · show dayL (S.chain ++ [l]) = l.da
        rw [dayL_snoc, if_pos h2]
      · show (advN (S.chain ++ [l]) : Int) = S.adv + 1
        rw [advN_snoc, if_pos h2]
        have := h.adv; omega
      · show cusN (S.chain ++ [l]) = S.cus.length
        rw [cusN_snoc, if_neg h1]; exact h.cus
      · rcases List.mem_append.1 hx with hx | hx
        · exact h.body x hx ho
        · simp only [List.mem_singleton] at hx; subst hx; omega
    · obtain ⟨c, hf⟩ := could_c hc h1 h2
      obtain ⟨hm, hn⟩ := find_mem hf
      have hbody := could_body hc h1 h2 hf
      rw [putS, if_neg h1, if_neg h2]
      refine ⟨?_, ?_, ?_, fun d hd => ?_, fun n hn' => ?_, fun x hx ho => ?_⟩
      · show dayL (S.chain ++ [l]) = S.day
        rw [dayL_snoc, if_neg h2]; exact h.day
      · show (advN (S.chain ++ [l]) : Int) = S.adv
        rw [advN_snoc, if_neg h2]; exact h.adv
      · show cusN (S.chain ++ [l]) = (S.cus.map _).length
        rw [cusN_snoc, if_neg h1, h.cus, List.length_map]
      · obtain ⟨d', hd', rfl⟩ := List.mem_map.1 hd
        by_cases q : d'.name = l.cu
        · rw [if_pos q]
          obtain rfl := find_uniq nd hd' hm (q.trans hn.symm)
          exact (h.yes _ hd').put hc h1 h2 hf
        · rw [if_neg q]
          exact (h.yes _ hd').skip (.inl fun e => q e.symm)
      · have hne : l.cu ≠ n ∧ S.find n = none := by
          have e := putS_find S l h1 h2 n
          rw [putS, if_neg h1, if_neg h2] at e
          rw [hn'] at e
          cases hz : S.find n with
          | none => exact ⟨fun z => (by rw [z] at hf; rw [hf] at hz; cases hz), rfl⟩
          | some d => rw [hz] at e; cases e
        exact (h.no n hne.2).skip (.inl hne.1)
      · rcases List.mem_append.1 hx with hx | hx
        · exact h.body x hx ho
        · simp only [List.mem_singleton] at hx; subst hx
          exact ⟨hbody.2.2.2, hbody.2.2.1⟩
theorem Good.said {S : PV} (h : Good S) : SaidS S := by
  induction h with
  | new => exact .new
  | put hS hc _ ih => exact ih.put hS.inv hc
/-- The versions of a record, none for a name that no customer has. -/
def recV (S : PV) (n : ByteArray) (num : Int) : List Lk := match S.find n with | none => [] | some c => versC c num
section
variable {S : PV}
theorem SaidS.vers (h : SaidS S) (n : ByteArray) (num : Int) : versL n num S.chain = recV S n num := by
  unfold recV
  cases hf : S.find n with
  | none => exact (h.no n hf).vers num
  | some c =>
    obtain ⟨hm, hn⟩ := find_mem hf
    have := (h.yes c hm).vers num
    rw [hn] at this; exact this
theorem SaidS.made (h : SaidS S) (n : ByteArray) : (madeL n S.chain : Int) = madeN S n := by
  unfold madeN
  cases hf : S.find n with
  | none => rw [(h.no n hf).made]; rfl
  | some c =>
    obtain ⟨hm, hn⟩ := find_mem hf
    have := (h.yes c hm).made
    rw [hn] at this; exact this
theorem SaidS.last (h : SaidS S) (n : ByteArray) (num : Int) (tu : ByteArray) : lastL n num tu S.chain = (shareAt S n (num, tu)).toList := by
  unfold shareAt
  cases hf : S.find n with
  | none => exact (h.no n hf).last num tu
  | some c =>
    obtain ⟨hm, hn⟩ := find_mem hf
    have := (h.yes c hm).last num tu
    rw [hn] at this; exact this
theorem SaidS.at (h : SaidS S) (n : ByteArray) : cusAt n S.chain < 0 ↔ S.find n = none := by
  cases hf : S.find n with
  | none => simp [(h.no n hf).at0]
  | some c =>
    obtain ⟨hm, hn⟩ := find_mem hf
    have := (h.yes c hm).at0
    rw [hn] at this
    simp; exact this
theorem SaidS.rent (h : SaidS S) (n p : ByteArray) : rentE false S.chain n p = enterR S n p := by
  unfold rentE enterR
  rw [if_neg (by simp)]
  cases hf : S.find n with
  | none => rw [if_pos ((h.at n).2 hf)]
  | some c =>
    obtain ⟨hm, hn⟩ := find_mem hf
    have h0 := (h.yes c hm).at0
    have ht := (h.yes c hm).tag
    rw [hn] at h0 ht
    rw [if_neg (by omega), ht]
    show (if (c.proof : Int) ≠ (proofN (keyN n p) : Int) then (110 : Int) else 0) = if proofN (keyN n p) = c.proof then 0 else 110
    by_cases e : proofN (keyN n p) = c.proof
    · rw [if_pos e, if_neg (by rw [e]; simp)]
    · rw [if_neg e, if_pos (by omega)]
theorem Good.nrec (h : Good S) (n : ByteArray) : (∀ j : Nat, j < recsN S n → recV S n ((j : Int) + 1) ≠ []) ∧ recV S n ((recsN S n : Int) + 1) = [] := by
  unfold recsN recV
  cases hf : S.find n with
  | none => exact ⟨fun j hj => by simp at hj, rfl⟩
  | some c =>
    obtain ⟨hm, hn⟩ := find_mem hf
    have hk := h.ok.cs c hm
    refine ⟨fun j hj => ?_, ?_⟩
    · have hj' : j < c.recs.length := hj
      show versC c ((j : Int) + 1) ≠ []
      unfold versC
      rw [if_neg (by omega), show ((j : Int) + 1 - 1).toNat = j by omega]
      have : c.recs.getD j [] = c.recs[j] := getD_lt _ hj'
      rw [this]
      exact (hk.rr _ (List.getElem_mem hj')).1
    · show versC c ((c.recs.length : Int) + 1) = []
      unfold versC; rw [if_pos (by omega)]
theorem Good.recA (h : Good S) {n : ByteArray} {c : PC} (hf : S.find n = some c) (num : Int) : recAt S n num = if recV S n num = [] then ([], 3) else if untilR (recV S n num) < S.day then ([], 111) else (recV S n num, 0) := by
  obtain ⟨hm, hn⟩ := find_mem hf
  have hk := h.ok.cs c hm
  unfold recAt recV
  rw [hf]
  show findR c num S.day = if versC c num = [] then ([], 3) else if untilR (versC c num) < S.day then ([], 111) else (versC c num, 0)
  unfold findR versC
  by_cases z : num < 1 ∨ (c.recs.length : Int) < num
  · rw [if_pos z, if_pos z, if_pos rfl]
  · rw [if_neg z, if_neg z]
    have hlt : (num - 1).toNat < c.recs.length := by omega
    have he : c.recs.getD (num - 1).toNat [] = c.recs[(num - 1).toNat] := getD_lt _ hlt
    rw [he]
    have := (hk.rr _ (List.getElem_mem hlt)).1
    rw [if_neg this]
theorem recV_none {n : ByteArray} (hf : S.find n = none) (num : Int) : recV S n num = [] := by unfold recV; rw [hf]
/-- The versions' Bodies are padded forms in blocks of 32 bytes. -/
theorem SaidS.recBody (h : SaidS S) (n : ByteArray) (num : Int) : ∀ l ∈ recV S n num, l.bo.length % 32 = 0 ∧ l.bo.length ≤ 2016 := by
  intro l hl
  rw [← h.vers] at hl
  unfold versL at hl
  obtain ⟨h1, h2⟩ := List.mem_filter.1 hl
  refine h.body l h1 ?_
  unfold selV at h2
  simp only [Bool.and_eq_true, Bool.or_eq_true, beq_iff_eq] at h2
  omega
theorem lastL_mem (fr : ByteArray) (num : Int) (tu : ByteArray) (l : Lk) : ∀ ls : List Lk, l ∈ lastL fr num tu ls → l ∈ ls ∧ l.op = 5 := by
  have h : ∀ (k : Nat) (ls : List Lk), l ∈ lastL fr num tu (ls.take k) → l ∈ ls.take k ∧ l.op = 5 := by
    intro k
    induction k with
    | zero => intro ls h; simp [lastL] at h
    | succ k ih =>
      intro ls h
      by_cases hk : k < ls.length
      · rw [List.take_succ_eq_append_getElem hk] at h ⊢
        rw [lastL_snoc] at h
        split at h
        · rename_i q
          simp only [List.mem_singleton] at h
          subst h
          simp only [Bool.and_eq_true, Bool.not_eq_true', bne_eq_false_iff_eq] at q
          exact ⟨List.mem_append.2 (.inr (List.mem_singleton.2 rfl)), by omega⟩
        · obtain ⟨h1, h2⟩ := ih ls h
          exact ⟨List.mem_append.2 (.inl h1), h2⟩
      · rw [List.take_of_length_le (by omega)] at h ⊢
        have := ih ls (by rw [List.take_of_length_le (by omega)]; exact h)
        rwa [List.take_of_length_le (by omega)] at this
  intro ls hl
  have := h ls.length ls (by rwa [List.take_length])
  rwa [List.take_length] at this
theorem SaidS.shareBody (h : SaidS S) (n : ByteArray) (num : Int) (tu : ByteArray) {l : Lk} (hl : shareAt S n (num, tu) = some l) : l.bo.length % 32 = 0 ∧ l.bo.length ≤ 2016 := by
  have h1 := h.last n num tu
  rw [hl] at h1
  obtain ⟨h2, h3⟩ := lastL_mem n num tu l S.chain (by rw [h1]; simp)
  exact h.body l h2 (by omega)
/-- Where a share is, the record is too. -/
theorem Good.shareRec (h : Good S) (n : ByteArray) (num : Int) (tu : ByteArray) {l : Lk} (hl : shareAt S n (num, tu) = some l) : ∃ c, S.find n = some c ∧ recV S n num ≠ [] := by
  unfold shareAt at hl
  cases hf : S.find n with
  | none => rw [hf] at hl; cases hl
  | some c =>
    rw [hf] at hl
    obtain ⟨hm, hn⟩ := find_mem hf
    refine ⟨c, rfl, ?_⟩
    have hl' : (c.shares.find? fun q => decide (q.1 = (num, tu))).map Prod.snd = some l := hl
    cases hq : c.shares.find? fun q => decide (q.1 = (num, tu)) with
    | none => rw [hq] at hl'; cases hl'
    | some q =>
      have hqm := List.mem_of_find?_eq_some hq
      have hqe : q.1 = (num, tu) := by simpa using List.find?_some hq
      have := (h.said.yes c hm).shr q hqm
      rw [hqe] at this
      have this : ¬ (num < 1 ∨ (c.recs.length : Int) < num) := this
      unfold recV
      rw [hf]
      show versC c num ≠ []
      unfold versC
      rw [if_neg this]
      have hlt : (num - 1).toNat < c.recs.length := by omega
      have he : c.recs.getD (num - 1).toNat [] = c.recs[(num - 1).toNat] := getD_lt _ hlt
      rw [he]
      exact ((h.ok.cs c hm).rr _ (List.getElem_mem hlt)).1
end
/-- A link whose texts are short. -/
structure SmL (l : Lk) : Prop where
  cu : l.cu.size ≤ 1000
  ki : l.ki.size ≤ 1000
  bo : l.bo.length ≤ 3000
theorem nameB_20 {s : ByteArray} (h : nameB s = true) : s.size ≤ 20 := by
  unfold nameB at h
  simp only [Bool.and_eq_true, decide_eq_true_eq] at h
  exact h.2.2
theorem Good.small {S : PV} (h : Good S) : (∀ c ∈ S.cus, c.name.size ≤ 20) ∧ ∀ l ∈ S.chain, SmL l := by
  induction h with
  | new => exact ⟨fun c hc => by simp [PV.new] at hc, fun l hl => by simp [PV.new] at hl⟩
  | @put S l hS hc _ ih =>
    obtain ⟨i1, i2⟩ := ih
    have hp := could_plain hc
    by_cases h1 : l.op = 1
    · obtain ⟨q1, q2, q3⟩ := could_1 hc h1
      have hn := nameB_20 q1
      unfold plainB at hp
      rw [if_pos h1] at hp
      simp only [Bool.and_eq_true, beq_iff_eq] at hp
      rw [putS, if_pos h1]
      refine ⟨fun c hc => ?_, fun x hx => ?_⟩
      · rcases List.mem_append.1 hc with hc | hc
        · exact i1 c hc
        · simp only [List.mem_singleton] at hc; subst hc; exact hn
      · rcases List.mem_append.1 hx with hx | hx
        · exact i2 x hx
        · simp only [List.mem_singleton] at hx; subst hx
          exact ⟨by omega, by omega, by omega⟩
    · by_cases h2 : l.op = 2
      · unfold plainB at hp
        rw [if_neg h1, if_pos h2] at hp
        simp only [Bool.and_eq_true, beq_iff_eq] at hp
        rw [putS, if_neg h1, if_pos h2]
        refine ⟨i1, fun x hx => ?_⟩
        rcases List.mem_append.1 hx with hx | hx
        · exact i2 x hx
        · simp only [List.mem_singleton] at hx; subst hx
          exact ⟨by omega, by omega, by omega⟩
      · obtain ⟨c, hf⟩ := could_c hc h1 h2
        obtain ⟨hm, hn⟩ := find_mem hf
        have hbody := could_body hc h1 h2 hf
        have hcu := i1 c hm
        rw [hn] at hcu
        have hki : l.ki.size ≤ 1000 := by
          rcases plain_345 hc h1 h2 with h3 | h4 | h5
          · have := nameB_20 (could_3 hc h3 hf).2.2.2.1; omega
          · unfold plainB at hp
            rw [if_neg h1, if_neg h2, if_neg (by omega), if_pos h4] at hp
            simp only [Bool.and_eq_true, beq_iff_eq] at hp
            omega
          · have := (could_5 hc h5 hf).2.1
            cases hk : S.find l.ki with
            | none => rw [hk] at this; cases this
            | some d =>
              obtain ⟨dm, dn⟩ := find_mem hk
              have := i1 d dm
              rw [dn] at this; omega
        rw [putS, if_neg h1, if_neg h2]
        refine ⟨fun d hd => ?_, fun x hx => ?_⟩
        · obtain ⟨d', hd', rfl⟩ := List.mem_map.1 hd
          have := i1 d' hd'
          split
          · rw [putC_name]; exact this
          · exact this
        · rcases List.mem_append.1 hx with hx | hx
          · exact i2 x hx
          · simp only [List.mem_singleton] at hx; subst hx
            exact ⟨by omega, hki, by omega⟩
end Go.Proofs.Ytlahejakcgoheaa
