/-
  Plain words: the passphrases with which customers were enrolled, and what was sealed; a changed version does not open.
-/
import Derived.Test.YtlahejakcgoheaaQF
import Derived.Test.YtlahejakcgoheaaSB
import Derived.Test.YtlahejakcgoheaaQC
set_option linter.unusedVariables false
set_option linter.unusedSimpArgs false
namespace Go.Proofs.Ytlahejakcgoheaa
/-- A link that some key of this proof sealed. -/
def Sealed (S : PV) (l : Lk) : Prop := ∃ c k0, ∃ t : List UInt8, S.find l.cu = some c ∧ proofN k0 = c.proof ∧ k0 < p61 ∧ t.length ≤ 100 ∧ l.bo = ciph (sealK k0 l) (padB t) ∧ l.tag = hbs (nh (sealK k0 l)) l.bo
/-- The passphrases P with which the customers were enrolled, in their order. -/
structure PI (S : PV) (P : List (ByteArray × ByteArray)) : Prop where
  ids : idsP S = P.map fun q => (q.1, proofN (keyN q.1 q.2))
  sl : ∀ l ∈ S.chain, (l.op = 3 ∨ l.op = 4) → Sealed S l
theorem PI.new : PI PV.new [] := ⟨rfl, by simp [PV.new]⟩
theorem find_proof {S : PV} {m : Lk} {n : ByteArray} {c : PC} (hf : S.find n = some c) : ∃ c', (putS S m).find n = some c' ∧ c'.proof = c.proof := by
  by_cases h1 : m.op = 1
  · exact ⟨c, find_put1 h1 hf, rfl⟩
  · by_cases h2 : m.op = 2
    · exact ⟨c, by rw [find_put2 h1 h2, hf], rfl⟩
    · refine ⟨if c.name = m.cu then putC m c else c, by rw [putS_find S m h1 h2, hf]; rfl, ?_⟩
      split
      · exact putC_proof m c
      · rfl
theorem Sealed.put {S : PV} {l m : Lk} (h : Sealed S l) : Sealed (putS S m) l := by
  obtain ⟨c, k0, t, hf, hp, r⟩ := h
  obtain ⟨c', hf', hp'⟩ := find_proof (m := m) hf
  exact ⟨c', k0, t, hf', by rw [hp', hp], r⟩
theorem sealed_of {S : PV} {m l0 : Lk} {k0 n : Nat} {t : ByteArray} {c : PC} (hm : m = withCh (sealedL k0 l0 t.data.toList) n) (hf : S.find m.cu = some c) (hp : proofN k0 = c.proof) (hk : k0 < p61) (ht : t.size ≤ 100) : Sealed (putS S m) m := by
  obtain ⟨c', hf', hp'⟩ := find_proof (m := m) hf
  refine ⟨c', k0, t.data.toList, hf', by rw [hp', hp], hk, by rw [len_data]; exact ht, ?_, ?_⟩
  · subst hm
    rw [sealK_sealed]; simp only [withCh, sealedL]
  · subst hm
    rw [sealK_sealed]; simp only [withCh, sealedL]
theorem enter_proof {S : PV} {n p : ByteArray} (h : enterR S n p = 0) : ∃ c, S.find n = some c ∧ proofN (keyN n p) = c.proof := by
  unfold enterR at h
  cases e : S.find n with
  | none => rw [e] at h; cases h
  | some c =>
    rw [e] at h
    refine ⟨c, rfl, ?_⟩
    have h' : (if proofN (keyN n p) = c.proof then (0 : Int) else 110) = 0 := h
    by_cases q : proofN (keyN n p) = c.proof
    · exact q
    · rw [if_neg q] at h'; cases h'
def stepP (S : PV) (P : List (ByteArray × ByteArray)) (o : Op) : List (ByteArray × ByteArray) := if o.kind = 1 ∧ enrolE S o.name o.pass = 0 then P ++ [(o.name, o.pass)] else P
theorem wide_text {o : Op} (h : wideO o = false) (h2 : o.text.size ≤ 2000) : o.text.size ≤ 100 := by
  unfold wideO at h
  simp only [Bool.or_eq_false_iff, Bool.and_eq_false_iff, decide_eq_false_iff_not] at h
  omega
theorem seal_ok {S : PV} {n p k t : ByteArray} {un : Int} (h : sealE S n p k un t = 0) : enterR S n p = 0 ∧ t.size ≤ 2000 := by
  unfold sealE at h
  split at h
  · rename_i q; exact absurd h q
  · rename_i q
    simp only [ne_eq, Decidable.not_not] at q
    refine ⟨q, ?_⟩
    split at h
    · cases h
    · split at h
      · cases h
      · split at h
        · cases h
        · omega
theorem rev_ok {S : PV} {n p t : ByteArray} {num : Int} (h : revE S n p num t = 0) : enterR S n p = 0 ∧ t.size ≤ 2000 := by
  unfold revE at h
  split at h
  · rename_i q; exact absurd h q
  · rename_i q
    simp only [ne_eq, Decidable.not_not] at q
    refine ⟨q, ?_⟩
    split at h
    · rename_i q2; exact absurd h q2
    · split at h
      · cases h
      · omega
theorem PI.play {S : PV} {P : List (ByteArray × ByteArray)} (h : PI S P) (o : Op) (hw : wideO o = false) : PI (playS S o) (stepP S P o) := by
  unfold playS stepP
  by_cases k1 : o.kind = 1
  · rw [if_pos k1]
    unfold enrolS
    by_cases e : enrolE S o.name o.pass = 0
    · rw [if_pos e, if_pos ⟨k1, e⟩]
      refine ⟨?_, fun l hl h3 => ?_⟩
      · rw [putS1]
        have := h.ids
        unfold idsP at this ⊢
        simp only [List.map_append, this, List.map_cons, List.map_nil]
      · rw [putS_chain] at hl
        rcases List.mem_append.1 hl with hl | hl
        · exact (h.sl l hl h3).put
        · simp at hl; subst hl
          exfalso
          rcases h3 with h3 | h3 <;> cases h3
    · rw [if_neg e, if_neg (fun q => e q.2)]; exact h
  · have hP : (if o.kind = 1 ∧ enrolE S o.name o.pass = 0 then P ++ [(o.name, o.pass)] else P) = P := if_neg fun q => k1 q.1
    rw [hP, if_neg k1]
    by_cases k2 : o.kind = 2
    · rw [if_pos k2]
      unfold advS
      split
      · refine ⟨?_, fun l hl h3 => ?_⟩
        · rw [putS2]; exact h.ids
        · rw [putS_chain] at hl
          rcases List.mem_append.1 hl with hl | hl
          · exact (h.sl l hl h3).put
          · simp at hl; subst hl
            exfalso
            rcases h3 with h3 | h3 <;> cases h3
      · exact h
    · rw [if_neg k2]
      by_cases k3 : o.kind = 3
      · rw [if_pos k3]
        unfold sealS
        split
        · rename_i e
          obtain ⟨he, ht⟩ := seal_ok e
          obtain ⟨c, hf, hp⟩ := enter_proof he
          refine ⟨by rw [putS_ids _ _ (by show ¬ (3 : Nat) = 1; omega) (by show ¬ (3 : Nat) = 2; omega)]; exact h.ids, fun l hl h3 => ?_⟩
          rw [putS_chain] at hl
          rcases List.mem_append.1 hl with hl | hl
          · exact (h.sl l hl h3).put
          · simp at hl; subst hl
            exact sealed_of rfl hf hp (keyN_lt _ _) (wide_text hw ht)
        · exact h
      · rw [if_neg k3]
        by_cases k4 : o.kind = 4
        · rw [if_pos k4]
          unfold revS
          split
          · rename_i e
            obtain ⟨he, ht⟩ := rev_ok e
            obtain ⟨c, hf, hp⟩ := enter_proof he
            refine ⟨by rw [putS_ids _ _ (by show ¬ (4 : Nat) = 1; omega) (by show ¬ (4 : Nat) = 2; omega)]; exact h.ids, fun l hl h3 => ?_⟩
            rw [putS_chain] at hl
            rcases List.mem_append.1 hl with hl | hl
            · exact (h.sl l hl h3).put
            · simp at hl; subst hl
              exact sealed_of rfl hf hp (keyN_lt _ _) (wide_text hw ht)
          · exact h
        · rw [if_neg k4]
          by_cases k7 : o.kind = 7
          · rw [if_pos k7]
            unfold relS
            split
            · refine ⟨by rw [putS_ids _ _ (by show ¬ (5 : Nat) = 1; omega) (by show ¬ (5 : Nat) = 2; omega)]; exact h.ids, fun l hl h3 => ?_⟩
              rw [putS_chain] at hl
              rcases List.mem_append.1 hl with hl | hl
              · exact (h.sl l hl h3).put
              · simp at hl; subst hl
                exfalso
                rcases h3 with h3 | h3 <;> cases h3
            · exact h
          · rw [if_neg k7]; exact h
theorem PI.find {S : PV} {P : List (ByteArray × ByteArray)} (h : PI S P) {n : ByteArray} {c : PC} (hf : S.find n = some c) : ∃ p, (n, p) ∈ P ∧ c.proof = proofN (keyN n p) := by
  obtain ⟨hm, hn⟩ := find_mem hf
  have : (c.name, c.proof) ∈ idsP S := List.mem_map.2 ⟨c, hm, rfl⟩
  rw [h.ids] at this
  obtain ⟨q, hq, he⟩ := List.mem_map.1 this
  simp only [Prod.mk.injEq] at he
  obtain ⟨e1, e2⟩ := he
  rw [hn] at e1
  refine ⟨q.2, ?_, ?_⟩
  · rw [← e1]; exact hq
  · rw [← e2, e1]
theorem PI.nodup {S : PV} {P : List (ByteArray × ByteArray)} (h : PI S P) (hg : PVOk S) : (P.map Prod.fst).Nodup := by
  have := congrArg (List.map Prod.fst) h.ids
  have e : (idsP S).map Prod.fst = S.cus.map PC.name := by simp [idsP]
  rw [e] at this
  have e2 : (P.map fun q => (q.1, proofN (keyN q.1 q.2))).map Prod.fst = P.map Prod.fst := by simp
  rw [e2] at this
  rw [← this]; exact hg.nd
/-- THE LAW'S END: the changed version does not open. -/
theorem seen_open {S : PV} {P : List (ByteArray × ByteArray)} (hg : Good S) (hp : PI S P) (k : Nat) (hk : k < S.chain.length) (h3 : (S.chain[k]).op = 3 ∨ (S.chain[k]).op = 4) (bs : List UInt8) (at0 j : Nat) (hj : j ≤ 7)
    (hc : chgK (S.chain[k]).bo bs at0 j = true) (R : List Lk) (hR : R = reCh 7 (S.chain.set k { S.chain[k] with bo := xorK (S.chain[k]).bo bs at0 j })) :
    loadE R = 0 ∧ Good (loadS R) ∧ ∃ p, ((S.chain[k]).cu, p) ∈ P ∧ ((openR (loadS R) (S.chain[k]).cu p (S.chain[k]).nu (S.chain[k]).ve).2.2 = 111 ∨ (openR (loadS R) (S.chain[k]).cu p (S.chain[k]).nu (S.chain[k]).ve).2.2 = 112) := by
  obtain ⟨x, hx⟩ : ∃ x, x = S.chain[k] := ⟨_, rfl⟩
  obtain ⟨x', hx'⟩ : ∃ x' : Lk, x' = { S.chain[k] with bo := xorK (S.chain[k]).bo bs at0 j } := ⟨_, rfl⟩
  have hxm : x ∈ S.chain := by rw [hx]; exact List.getElem_mem hk
  have hpj : pj x' = pj x := by rw [hx', hx]; unfold pj; simp only [xorK_len]
  have hmap : (S.chain.set k x').map pj = S.chain.map pj := by
    rw [List.map_set, hpj, hx]
    apply List.ext_getElem?
    intro i
    rw [List.getElem?_set]
    split
    · rename_i e; subst e
      simp [hk]
    · rfl
  obtain ⟨l1, l2, l3, l4⟩ := again_load hg hmap
  rw [← hx'] at hR
  rw [← hR] at l1 l2 l3 l4
  rw [← hx] at h3 hc ⊢
  refine ⟨l1, l3, ?_⟩
  obtain ⟨m, hm⟩ := reCh_get (S.chain.set k x') 7 k (by rw [List.length_set]; exact hk)
  rw [← hR, List.getElem_set_self] at hm
  have hin : withCh x' m ∈ (loadS R).chain := by rw [l4]; exact List.mem_of_getElem? hm
  have hop : (withCh x' m).op = x.op := by rw [hx', ← hx]; rfl
  obtain ⟨c, hf, a1, a2, a3, a4, a5⟩ := l3.places _ hin (by rw [hop]; exact h3)
  have hcu : (withCh x' m).cu = x.cu := by rw [hx', ← hx]; rfl
  have hnu : (withCh x' m).nu = x.nu := by rw [hx', ← hx]; rfl
  have hve : (withCh x' m).ve = x.ve := by rw [hx', ← hx]; rfl
  rw [hcu] at hf
  rw [hnu] at a1 a2 a4 a5
  rw [hve] at a3 a4 a5
  obtain ⟨d, k0, t, hfd, hpk, hk0, ht, hbo, htag⟩ := hp.sl x hxm h3
  obtain ⟨p, hpm, hpp⟩ := hp.find hfd
  refine ⟨p, hpm, ?_⟩
  have hcd : c.proof = d.proof := by
    have e1 := pjV_find (loadS R) x.cu
    have e2 := pjV_find S x.cu
    rw [l2, e2, hf, hfd] at e1
    have := Option.some.inj e1
    exact (congrArg PC.proof this).symm
  have hen : enterR (loadS R) x.cu p = 0 := by
    unfold enterR; rw [hf]
    show (if proofN (keyN x.cu p) = c.proof then (0 : Int) else 110) = 0
    rw [if_pos (by rw [hcd, hpp])]
  have hra : recAt (loadS R) x.cu x.nu = findR c x.nu (loadS R).day := by unfold recAt; rw [hf]
  have hfr : findR c x.nu (loadS R).day = if untilR (c.recs.getD (x.nu - 1).toNat []) < (loadS R).day then ([], 111) else (c.recs.getD (x.nu - 1).toNat [], 0) := by
    unfold findR
    rw [if_neg (by omega)]
  unfold openR
  rw [hen, hra, if_neg (by simp), hfr]
  split
  · left; simp
  · right
    generalize hr : c.recs.getD (x.nu - 1).toNat [] = r at *
    rw [if_neg (by simp), if_neg (by simp only; omega)]
    have e : (if x.ve = 0 then (r, (0 : Int)).1.length else x.ve.toNat) - 1 = (x.ve - 1).toNat := by rw [if_neg (by omega)]; omega
    simp only at e ⊢
    rw [e, a5]
    have hfits : (fitsL (keyN x.cu p) (withCh x' m) && okL (keyN x.cu p) (withCh x' m)) = false := by
      rw [Bool.and_eq_false_iff]
      refine Classical.byContradiction fun hn => ?_
      rw [not_or] at hn
      have hfit : fitsL (keyN x.cu p) (withCh x' m) = true := by simpa using hn.1
      have hok : okL (keyN x.cu p) (withCh x' m) = true := by simpa using hn.2
      have hsk : sealK (keyN x.cu p) (withCh x' m) = sealK (keyN x.cu p) x := by rw [hx', ← hx]; unfold sealK sk0 withCh; rfl
      have hb' : (withCh x' m).bo = xorK x.bo bs at0 j := by rw [hx', ← hx]; rfl
      have ht' : (withCh x' m).tag = x.tag := by rw [hx', ← hx]; rfl
      unfold fitsL at hfit
      rw [hsk, hb', ht', htag, hbo] at hfit
      unfold okL at hok
      rw [hsk, hb', hbo] at hok
      rw [hbo] at hc
      have := no_open hk0 (keyN_lt x.cu p) (by rw [hpk, ← hpp]) x (by omega) t ht bs at0 j hj hc (by simpa using hfit)
      rw [this] at hok; cases hok
    rw [hfits]
    simp
end Go.Proofs.Ytlahejakcgoheaa
