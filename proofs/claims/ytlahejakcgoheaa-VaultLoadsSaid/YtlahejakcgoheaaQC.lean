/-
  Plain words: what was sealed is given back.
-/
import Derived.Test.YtlahejakcgoheaaQB
set_option linter.unusedVariables false
set_option linter.unusedSimpArgs false
namespace Go.Proofs.Ytlahejakcgoheaa
theorem padB_take (t : List UInt8) : (padB t).take 2 = numB t.length 2 ∧ (padB t).drop 2 = t ++ List.replicate (padN t.length - (t.length + 2)) 0 := by
  unfold padB
  rw [List.append_assoc]
  refine ⟨List.take_left' (by simp [numB_len]), List.drop_left' (by simp [numB_len])⟩
theorem unpN_pad (t : List UInt8) (h : t.length < 65536) : unpN (padB t) = t.length := by
  have e : padB t = UInt8.ofNat (t.length / 2 ^ (8 * 1)) :: UInt8.ofNat (t.length / 2 ^ (8 * 0)) :: (t ++ List.replicate (padN t.length - (t.length + 2)) 0) := by
    unfold padB; simp [numB]
  unfold unpN
  rw [e]
  simp only [List.getD_eq_getElem?_getD, List.getElem?_cons_zero, List.getElem?_cons_succ, Option.getD_some, UInt8.toNat_ofNat']
  omega
theorem unpOk_pad (t : List UInt8) (h : t.length ≤ 2000) : unpOk (padB t) = true := by
  have h1 := unpN_pad t (by omega)
  have h2 := padN_32 t.length
  have h3 := padN_ge t.length
  have h4 : padN t.length < t.length + 34 := by unfold padN; omega
  unfold unpOk
  rw [h1, padB_len]
  simp only [Bool.and_eq_true, decide_eq_true_eq]
  refine ⟨h2, h, h3, by omega, ?_⟩
  have : (padB t).drop (t.length + 2) = List.replicate (padN t.length - (t.length + 2)) 0 := by
    have e : (padB t).drop (t.length + 2) = ((padB t).drop 2).drop t.length := by rw [List.drop_drop, Nat.add_comm 2]
    rw [e, (padB_take t).2]
    exact List.drop_left
  rw [this]
  simp
theorem unpT_pad (t : List UInt8) (h : t.length ≤ 2000) : unpT (padB t) = t := by
  unfold unpT
  rw [if_pos (unpOk_pad t h), unpN_pad t (by omega), (padB_take t).2]
  exact List.take_left
theorem sealK_sealed (key : Nat) (l : Lk) (t : List UInt8) (n : Nat) : sealK key (withCh (sealedL key l t) n) = sealK key l := by
  have e : sk0 key (withCh (sealedL key l t) n) = sk0 key l := rfl
  unfold sealK
  rw [e]
  exact rfl
theorem fits_sealed (key : Nat) (l : Lk) (t : List UInt8) (n : Nat) : fitsL key (withCh (sealedL key l t) n) = true := by
  unfold fitsL
  rw [sealK_sealed]
  simp only [withCh, sealedL, beq_self_eq_true]
theorem ok_sealed (key : Nat) (l : Lk) (t : List UInt8) (n : Nat) (h : t.length ≤ 2000) : okL key (withCh (sealedL key l t) n) = true := by
  unfold okL
  rw [sealK_sealed]
  simp only [withCh, sealedL]
  rw [ciph_twice, unpOk_pad t h]
theorem text_sealed (key : Nat) (l : Lk) (t : ByteArray) (n : Nat) (h : t.data.toList.length ≤ 2000) : textB key (withCh (sealedL key l t.data.toList) n) = t := by
  unfold textB textL
  rw [sealK_sealed]
  simp only [withCh, sealedL]
  rw [ciph_twice, unpT_pad _ h]
/-- A link opens to a text. -/
def Opens (key : Nat) (l : Lk) (t : ByteArray) : Prop := fitsL key l = true ∧ okL key l = true ∧ textB key l = t
theorem opens_sealed (S : PV) (key : Nat) (l : Lk) (t : ByteArray) (h : t.size ≤ 2000) : Opens key (chained S (sealedL key l t.data.toList)) t := by
  have h' : t.data.toList.length ≤ 2000 := by rw [len_data]; exact h
  exact ⟨fits_sealed _ _ _ _, ok_sealed _ _ _ _ h', text_sealed _ _ _ _ h'⟩
abbrev bB : ByteArray := ⟨#[98]⟩
/-- The vault of the law: k versions, and perhaps a share. -/
structure GB (pass share : ByteArray) (ts : List ByteArray) (k : Nat) (g : Bool) (S : PV) : Prop where
  good : Good S
  day : S.day = 0
  adv : S.adv = 0
  k1 : 1 ≤ k
  ada : ∃ c r, S.find bAda = some c ∧ c.proof = proofN (keyN bAda pass) ∧ c.recs = [r] ∧ r.length = k ∧ untilR r = 5 ∧ (r.getD 0 Lk.nil).da = 0 ∧ (r.getD 0 Lk.nil).ki = bPolar ∧
    (∀ i, i < k → Opens (keyN bAda pass) (r.getD i Lk.nil) (sth ts i)) ∧ (g = true → ∃ l, shareOf c (1, bBob) = some l ∧ Opens (shareK share) l (sth ts 0))
  bob : ∃ d, S.find bBob = some d ∧ d.proof = proofN (keyN bBob bB)
def gS2 (pass : ByteArray) : PV := enrolS (enrolS PV.new bAda pass) bBob bB
theorem putS1 (S : PV) (n p : ByteArray) : putS S (chained S (enrolL n p)) = { S with cus := S.cus ++ [⟨n, proofN (keyN n p), [], 0, []⟩], chain := S.chain ++ [chained S (enrolL n p)] } := by
  unfold putS; rw [if_pos (show (chained S (enrolL n p)).op = 1 from rfl)]; rfl
theorem putS2 (S : PV) (d : Int) : putS S (chained S (advL d)) = { S with day := d, adv := S.adv + 1, chain := S.chain ++ [chained S (advL d)] } := by
  unfold putS; rw [if_neg (show ¬ (chained S (advL d)).op = 1 by show ¬ (2 : Nat) = 1; omega), if_pos (show (chained S (advL d)).op = 2 from rfl)]; rfl
section
variable {pass share : ByteArray} {ts : List ByteArray}
theorem gS2_facts (e1 : enrolE PV.new bAda pass = 0) (e2 : enrolE (enrolS PV.new bAda pass) bBob bB = 0) :
    (gS2 pass).cus = [⟨bAda, proofN (keyN bAda pass), [], 0, []⟩, ⟨bBob, proofN (keyN bBob bB), [], 0, []⟩] ∧ (gS2 pass).day = 0 ∧ (gS2 pass).adv = 0 ∧ Good (gS2 pass) := by
  have hS1 : enrolS PV.new bAda pass = putS PV.new (chained PV.new (enrolL bAda pass)) := by unfold enrolS; rw [if_pos e1]
  have hS2 : gS2 pass = putS (enrolS PV.new bAda pass) (chained (enrolS PV.new bAda pass) (enrolL bBob bB)) := by
    show enrolS (enrolS PV.new bAda pass) bBob bB = _
    generalize enrolS PV.new bAda pass = S at e2 ⊢
    unfold enrolS; rw [if_pos e2]
  refine ⟨?_, ?_, ?_, (Good.new.enrol _ _).enrol _ _⟩
  · rw [hS2, putS1, hS1, putS1]; rfl
  · rw [hS2, putS1, hS1, putS1]; rfl
  · rw [hS2, putS1, hS1, putS1]; rfl
theorem ada_bob : ¬ bAda = bBob := by decide
theorem seal_first (e1 : enrolE PV.new bAda pass = 0) (e2 : enrolE (enrolS PV.new bAda pass) bBob bB = 0) (h0 : (sth ts 0).size ≤ 2000) :
    sealE (gS2 pass) bAda pass bPolar 5 (sth ts 0) = 0 ∧ recsN (gS2 pass) bAda = 0 ∧ GB pass share ts 1 false (sealS (gS2 pass) bAda pass bPolar 5 (sth ts 0)) := by
  obtain ⟨hc, hd, ha, hg⟩ := gS2_facts e1 e2
  have hf : (gS2 pass).find bAda = some ⟨bAda, proofN (keyN bAda pass), [], 0, []⟩ := by unfold PV.find; rw [hc]; rfl
  have hf2 : (gS2 pass).find bBob = some ⟨bBob, proofN (keyN bBob bB), [], 0, []⟩ := by
    unfold PV.find; rw [hc]
    rw [List.find?_cons_of_neg (by simp), List.find?_cons_of_pos (by simp)]
  have hen : enterR (gS2 pass) bAda pass = 0 := by unfold enterR; rw [hf]; simp
  have hrn : recsN (gS2 pass) bAda = 0 := by unfold recsN; rw [hf]; rfl
  have hse : sealE (gS2 pass) bAda pass bPolar 5 (sth ts 0) = 0 := by
    unfold sealE
    rw [hen, hd, hrn, if_neg (by omega), if_neg (by decide), if_neg (by omega), if_neg (by omega), if_neg (by omega)]
  have hS : sealS (gS2 pass) bAda pass bPolar 5 (sth ts 0) = putS (gS2 pass) (chained (gS2 pass) (sealL (gS2 pass) bAda pass bPolar 5 (sth ts 0))) := by unfold sealS; rw [if_pos hse]
  have h1 : ¬ (chained (gS2 pass) (sealL (gS2 pass) bAda pass bPolar 5 (sth ts 0))).op = 1 := by show ¬ (3 : Nat) = 1; omega
  have h2 : ¬ (chained (gS2 pass) (sealL (gS2 pass) bAda pass bPolar 5 (sth ts 0))).op = 2 := by show ¬ (3 : Nat) = 2; omega
  have hcu : (chained (gS2 pass) (sealL (gS2 pass) bAda pass bPolar 5 (sth ts 0))).cu = bAda := rfl
  refine ⟨hse, hrn, ⟨hg.seal _ _ _ _ _, ?_, ?_, Nat.le_refl _, ?_, ?_⟩⟩
  · rw [hS, (putS_day _ _ h1 h2).1, hd]
  · rw [hS, (putS_day _ _ h1 h2).2, ha]
  · rw [hS]
    refine ⟨putC (chained (gS2 pass) (sealL (gS2 pass) bAda pass bPolar 5 (sth ts 0))) ⟨bAda, proofN (keyN bAda pass), [], 0, []⟩, [chained (gS2 pass) (sealL (gS2 pass) bAda pass bPolar 5 (sth ts 0))], ?_, ?_, ?_, rfl, rfl, ?_, rfl, fun i hi => ?_, fun e => by cases e⟩
    · rw [putS_find _ _ h1 h2, hf, hcu]; simp
    · rw [putC_proof]
    · unfold putC; rw [if_pos (show (chained (gS2 pass) (sealL (gS2 pass) bAda pass bPolar 5 (sth ts 0))).op = 3 from rfl)]; rfl
    · show (gS2 pass).day = 0; exact hd
    · obtain rfl : i = 0 := by omega
      exact opens_sealed _ _ _ _ h0
  · rw [hS, putS_find _ _ h1 h2, hf2, hcu]
    refine ⟨_, rfl, ?_⟩
    show (if bBob = bAda then _ else _ : PC).proof = _
    rw [if_neg (fun e => ada_bob e.symm)]
theorem GB.enter {k : Nat} {g : Bool} {S : PV} (h : GB pass share ts k g S) : enterR S bAda pass = 0 := by
  obtain ⟨c, r, hf, hp, -⟩ := h.ada
  unfold enterR; rw [hf]; simp [hp]
theorem GB.enterB {k : Nat} {g : Bool} {S : PV} (h : GB pass share ts k g S) : enterR S bBob bB = 0 := by
  obtain ⟨c, hf, hp⟩ := h.bob
  unfold enterR; rw [hf]; simp [hp]
theorem findR_1 {c : PC} {r : List Lk} (hr : c.recs = [r]) (d : Int) : findR c 1 d = if untilR r < d then ([], 111) else (r, 0) := by
  unfold findR
  rw [hr, if_neg (by simp)]
  rfl
theorem GB.recd {k : Nat} {g : Bool} {S : PV} (h : GB pass share ts k g S) : ∃ r, recAt S bAda 1 = (r, 0) ∧ r.length = k ∧ ∀ i, i < k → Opens (keyN bAda pass) (r.getD i Lk.nil) (sth ts i) := by
  obtain ⟨c, r, hf, hp, hr, hl, hu, hd, hk, ho, hs⟩ := h.ada
  refine ⟨r, ?_, hl, ho⟩
  unfold recAt; rw [hf]
  show findR c 1 S.day = _
  rw [findR_1 hr, hu, h.day, if_neg (by omega)]
theorem GB.open {k : Nat} {g : Bool} {S : PV} (h : GB pass share ts k g S) (i : Nat) (hi : i < k) : openR S bAda pass 1 ((i : Int) + 1) = (sth ts i, (i : Int) + 1, 0) := by
  obtain ⟨r, hr, hl, ho⟩ := h.recd
  obtain ⟨o1, o2, o3⟩ := ho i hi
  unfold openR
  rw [h.enter, hr, if_neg (by simp), if_neg (by simp), if_neg (by simp only; omega)]
  have e : (if ((i : Int) + 1) = 0 then (r, (0 : Int)).1.length else ((i : Int) + 1).toNat) = i + 1 := by rw [if_neg (by omega)]; omega
  simp only [e, Nat.add_sub_cancel, o1, o2, o3, Bool.and_self, if_true]
  simp
theorem GB.openLast {k : Nat} {g : Bool} {S : PV} (h : GB pass share ts k g S) : openR S bAda pass 1 0 = (sth ts (k - 1), (k : Int), 0) := by
  obtain ⟨r, hr, hl, ho⟩ := h.recd
  have hk := h.k1
  obtain ⟨o1, o2, o3⟩ := ho (k - 1) (by omega)
  unfold openR
  rw [h.enter, hr, if_neg (by simp), if_neg (by simp), if_neg (by simp only; omega)]
  simp only [if_true, hl, o1, o2, o3, Bool.and_self]
theorem GB.rel {S : PV} (h : GB pass share ts 1 false S) (h0 : (sth ts 0).size ≤ 2000) : GB pass share ts 1 (decide (relE S bAda pass 1 bBob share = 0)) (relS S bAda pass 1 bBob share) := by
  unfold relS
  by_cases q : relE S bAda pass 1 bBob share = 0
  · rw [if_pos q, decide_eq_true q]
    have h1 : ¬ (chained S (relL S bAda pass 1 bBob share)).op = 1 := by show ¬ (5 : Nat) = 1; omega
    have h2 : ¬ (chained S (relL S bAda pass 1 bBob share)).op = 2 := by show ¬ (5 : Nat) = 2; omega
    have hcu : (chained S (relL S bAda pass 1 bBob share)).cu = bAda := rfl
    obtain ⟨c, r, hf, hp, hr, hl, hu, hd, hk, ho, hs⟩ := h.ada
    have hput : putC (chained S (relL S bAda pass 1 bBob share)) c = { c with made := c.made + 1, shares := putShare (1, bBob) (chained S (relL S bAda pass 1 bBob share)) c.shares } := by
      unfold putC
      rw [if_neg (show ¬ (chained S (relL S bAda pass 1 bBob share)).op = 3 by show ¬ (5 : Nat) = 3; omega), if_neg (show ¬ (chained S (relL S bAda pass 1 bBob share)).op = 4 by show ¬ (5 : Nat) = 4; omega)]; rfl
    refine ⟨Good.put h.good (rel_could q) (chained_ch _ _), by rw [(putS_day _ _ h1 h2).1, h.day], by rw [(putS_day _ _ h1 h2).2, h.adv], Nat.le_refl _, ?_, ?_⟩
    · refine ⟨putC (chained S (relL S bAda pass 1 bBob share)) c, r, ?_, ?_, ?_, hl, hu, hd, hk, ho, fun _ => ⟨chained S (relL S bAda pass 1 bBob share), ?_, ?_⟩⟩
      · rw [putS_find _ _ h1 h2, hf, hcu]; simp [(find_mem hf).2]
      · rw [putC_proof, hp]
      · rw [hput]; exact hr
      · rw [hput]
        unfold shareOf
        simp only
        have : ∀ ss : List ((Int × ByteArray) × Lk), ((putShare (1, bBob) (chained S (relL S bAda pass 1 bBob share)) ss).find? fun q => decide (q.1 = (1, bBob))).map Prod.snd = some (chained S (relL S bAda pass 1 bBob share)) := by
          intro ss
          induction ss with
          | nil => simp [putShare]
          | cons p ps ih =>
            simp only [putShare]
            by_cases e : p.1 = (1, bBob)
            · rw [if_pos e]; simp
            · rw [if_neg e, List.find?_cons_of_neg (by simpa using e)]; exact ih
        exact this c.shares
      · have := h.openLast
        unfold relL
        rw [this]
        exact opens_sealed _ _ _ _ h0
    · obtain ⟨d, hf2, hp2⟩ := h.bob
      rw [putS_find _ _ h1 h2, hf2, hcu]
      refine ⟨_, rfl, ?_⟩
      show (if d.name = bAda then _ else d : PC).proof = _
      split
      · rw [putC_proof, hp2]
      · exact hp2
  · rw [if_neg q, decide_eq_false q]; exact h
theorem GB.rev {k : Nat} {g : Bool} {S : PV} (h : GB pass share ts k g S) (hk : k < 20) (ht : (sth ts k).size ≤ 2000) :
    revE S bAda pass 1 (sth ts k) = 0 ∧ (recAt S bAda 1).1.length = k ∧ GB pass share ts (k + 1) g (revS S bAda pass 1 (sth ts k)) := by
  obtain ⟨r', hr', hl', -⟩ := h.recd
  have he : revE S bAda pass 1 (sth ts k) = 0 := by
    unfold revE
    rw [h.enter, hr', if_neg (by simp), if_neg (by simp), if_neg (by omega), if_neg (by simp only; omega)]
  have hrl : (recAt S bAda 1).1.length = k := by rw [hr']; exact hl'
  refine ⟨he, hrl, ?_⟩
  have hS : revS S bAda pass 1 (sth ts k) = putS S (chained S (revL S bAda pass 1 (sth ts k))) := by unfold revS; rw [if_pos he]
  have h1 : ¬ (chained S (revL S bAda pass 1 (sth ts k))).op = 1 := by show ¬ (4 : Nat) = 1; omega
  have h2 : ¬ (chained S (revL S bAda pass 1 (sth ts k))).op = 2 := by show ¬ (4 : Nat) = 2; omega
  have hcu : (chained S (revL S bAda pass 1 (sth ts k))).cu = bAda := rfl
  obtain ⟨c, r, hf, hp, hr, hl, hu, hd, hki, ho, hs⟩ := h.ada
  have hput : putC (chained S (revL S bAda pass 1 (sth ts k))) c = { c with recs := [r ++ [chained S (revL S bAda pass 1 (sth ts k))]] } := by
    unfold putC
    rw [if_neg (show ¬ (chained S (revL S bAda pass 1 (sth ts k))).op = 3 by show ¬ (4 : Nat) = 3; omega), if_pos (show (chained S (revL S bAda pass 1 (sth ts k))).op = 4 from rfl), hr]; rfl
  have hr0 : r ≠ [] := fun e => by rw [e] at hl; have := h.k1; simp at hl; omega
  obtain ⟨x, xs, rfl⟩ := List.exists_cons_of_ne_nil hr0
  refine ⟨h.good.rev _ _ _ _, by rw [hS, (putS_day _ _ h1 h2).1, h.day], by rw [hS, (putS_day _ _ h1 h2).2, h.adv], by omega, ?_, ?_⟩
  · rw [hS]
    refine ⟨putC (chained S (revL S bAda pass 1 (sth ts k))) c, (x :: xs) ++ [chained S (revL S bAda pass 1 (sth ts k))], ?_, ?_, ?_, ?_, hu, hd, hki, fun i hi => ?_, fun e => ?_⟩
    · rw [putS_find _ _ h1 h2, hf, hcu]; simp [(find_mem hf).2]
    · rw [putC_proof, hp]
    · rw [hput]
    · rw [List.length_append, hl]; rfl
    · by_cases e : i < k
      · rw [List.getD_eq_getElem?_getD, List.getElem?_append_left (by rw [hl]; exact e), ← List.getD_eq_getElem?_getD]
        exact ho i e
      · obtain rfl : i = k := by omega
        rw [List.getD_eq_getElem?_getD, List.getElem?_append_right (by rw [hl]; exact Nat.le_refl _), hl, Nat.sub_self]
        exact opens_sealed _ _ _ _ ht
    · obtain ⟨l, s1, s2⟩ := hs e
      exact ⟨l, by rw [hput]; exact s1, s2⟩
  · obtain ⟨d, hf2, hp2⟩ := h.bob
    rw [hS, putS_find _ _ h1 h2, hf2, hcu]
    refine ⟨_, rfl, ?_⟩
    show (if d.name = bAda then _ else d : PC).proof = _
    split
    · rw [putC_proof, hp2]
    · exact hp2
theorem GB.bor {k : Nat} {S : PV} (h : GB pass share ts k true S) : borR S bBob bB bAda 1 share = (sth ts 0, 0) := by
  obtain ⟨c, r, hf, hp, hr, hl, hu, hd, hki, ho, hs⟩ := h.ada
  obtain ⟨l, s1, o1, o2, o3⟩ := hs rfl
  obtain ⟨r', hr', -⟩ := h.recd
  unfold borR
  have e : shareAt S bAda (1, bBob) = some l := by unfold shareAt; rw [hf]; exact s1
  rw [h.enterB, if_neg (by simp), e]
  simp only [o1, o2, o3, hr']
  simp
theorem GB.list {k : Nat} {g : Bool} {S : PV} (h : GB pass share ts k g S) : listR S bAda pass = ([⟨1, k, 0, 5, bPolar, false⟩], 0) := by
  obtain ⟨c, r, hf, hp, hr, hl, hu, hd, hki, ho, hs⟩ := h.ada
  unfold listR
  rw [h.enter, if_neg (by simp), hf, h.day]
  simp only [entries, hr]
  show ([entryOf 0 0 r], _) = _
  unfold entryOf
  rw [hl, hu, hd, hki]
  simp
theorem GB.adv6 {k : Nat} {g : Bool} {S : PV} (h : GB pass share ts k g S) : advE S 6 = 0 ∧ (openR (advS S 6) bAda pass 1 0).2.2 = 111 ∧ listR (advS S 6) bAda pass = ([⟨1, k, 0, 5, bPolar, true⟩], 0) := by
  obtain ⟨c, r, hf, hp, hr, hl, hu, hd, hki, ho, hs⟩ := h.ada
  have he : advE S 6 = 0 := by
    unfold advE; rw [h.day, h.adv]; decide
  have hS : advS S 6 = { S with day := 6, adv := S.adv + 1, chain := S.chain ++ [chained S (advL 6)] } := by unfold advS; rw [if_pos he, putS2]
  have hf' : (advS S 6).find bAda = some c := by rw [hS]; exact hf
  have hd' : (advS S 6).day = 6 := by rw [hS]
  have hen : enterR (advS S 6) bAda pass = 0 := by unfold enterR; rw [hf']; simp [hp]
  refine ⟨he, ?_, ?_⟩
  · have hra : recAt (advS S 6) bAda 1 = ([], 111) := by
      unfold recAt; rw [hf']
      show findR c 1 _ = _
      rw [findR_1 hr, hu, hd', if_pos (by omega)]
    unfold openR
    rw [hen, hra]
    simp
  · unfold listR
    rw [hen, if_neg (by simp), hf', hd']
    simp only [entries, hr]
    show ([entryOf 6 0 r], _) = _
    unfold entryOf
    rw [hl, hu, hd, hki]
    simp
end
end Go.Proofs.Ytlahejakcgoheaa
