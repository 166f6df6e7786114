/-
  Plain words: what holds of the links of a vault; vaults that look the same but for Bodies.
-/
import Derived.Test.YtlahejakcgoheaaQE
set_option linter.unusedVariables false
set_option linter.unusedSimpArgs false
namespace Go.Proofs.Ytlahejakcgoheaa
/-! ### numbers of links -/
structure LkSm (l : Lk) : Prop where
  op : l.op < 256
  nu : 0 ≤ l.nu ∧ l.nu < 4294967296
  ve : 0 ≤ l.ve ∧ l.ve < 4294967296
  da : 0 ≤ l.da ∧ l.da < 4294967296
  un : 0 ≤ l.un ∧ l.un < 4294967296
theorem plain_1 {l : Lk} (h : plainB l = true) (h1 : l.op = 1) : l.nu = 0 ∧ l.ve = 0 ∧ l.da = 0 ∧ l.un = 0 := by
  unfold plainB at h; rw [if_pos h1] at h
  simp at h; omega
theorem plain_2 {l : Lk} (h : plainB l = true) (h1 : l.op = 2) : l.nu = 0 ∧ l.ve = 0 ∧ l.un = 0 := by
  unfold plainB at h; rw [if_neg (by omega), if_pos h1] at h
  simp at h; omega
theorem plain_4 {l : Lk} (h : plainB l = true) (h1 : l.op = 4) : l.un = 0 := by
  unfold plainB at h; rw [if_neg (by omega), if_neg (by omega), if_neg (by omega), if_pos h1] at h
  simp at h; omega
theorem plain_5 {l : Lk} (h : plainB l = true) (h1 : l.op = 5) : l.un = 0 := by
  unfold plainB at h; rw [if_neg (by omega), if_neg (by omega), if_neg (by omega), if_neg (by omega), if_pos h1] at h
  simp at h; omega
theorem findR_len {S : PV} (hg : PVOk S) {c : PC} (hc : c ∈ S.cus) (n d : Int) : (findR c n d).1.length ≤ 20 := by
  have h := hg.cs c hc
  unfold findR
  split
  · simp
  · split
    · simp
    · rename_i q _
      simp only
      have hl : (n - 1).toNat < c.recs.length := by omega
      rw [List.getD_eq_getElem?_getD, List.getElem?_eq_getElem hl]
      exact (h.rr _ (List.getElem_mem hl)).2
theorem could_sm {S : PV} {l : Lk} (hg : PVOk S) (h : couldB S l = true) : LkSm l := by
  have hp := could_plain h
  have d0 := hg.d0; have d1 := hg.d1
  rcases plain_op hp with h1 | h1 | h1 | h1 | h1
  · obtain ⟨a, b, c, d⟩ := plain_1 hp h1
    exact ⟨by omega, by omega, by omega, by omega, by omega⟩
  · obtain ⟨a, b, c⟩ := plain_2 hp h1
    obtain ⟨q1, q2, q3⟩ := could_2 h h1
    exact ⟨by omega, by omega, by omega, by omega, by omega⟩
  · obtain ⟨c, hf⟩ := could_c h (by omega) (by omega)
    obtain ⟨q1, q2, q3, q4, q5, q6⟩ := could_3 h h1 hf
    obtain ⟨r1, -⟩ := could_body h (by omega) (by omega) hf
    exact ⟨by omega, by omega, by omega, by omega, by omega⟩
  · obtain ⟨c, hf⟩ := could_c h (by omega) (by omega)
    obtain ⟨q1, q2⟩ := could_4 h h1 hf
    obtain ⟨r1, -⟩ := could_body h (by omega) (by omega) hf
    obtain ⟨s1, s2, -⟩ := findR_ok (could_rec h (by omega) (by omega) (by omega) hf)
    have := (hg.cs c (find_mem hf).1).rl
    have := plain_4 hp h1
    exact ⟨by omega, by omega, by omega, by omega, by omega⟩
  · obtain ⟨c, hf⟩ := could_c h (by omega) (by omega)
    obtain ⟨q1, -⟩ := could_5 h h1 hf
    obtain ⟨r1, -⟩ := could_body h (by omega) (by omega) hf
    obtain ⟨s1, s2, -⟩ := findR_ok (could_rec h (by omega) (by omega) (by omega) hf)
    have := (hg.cs c (find_mem hf).1).rl
    have := findR_len hg (find_mem hf).1 l.nu S.day
    have := plain_5 hp h1
    exact ⟨by omega, by omega, by omega, by omega, by omega⟩
theorem Good.sm {S : PV} (h : Good S) : ∀ l ∈ S.chain, LkSm l := by
  induction h with
  | new => intro l hl; simp [PV.new] at hl
  | put hS hc _ ih =>
    intro l hl
    rw [putS_chain] at hl
    rcases List.mem_append.1 hl with hl | hl
    · exact ih l hl
    · simp at hl; subst hl
      exact could_sm hS.ok hc
/-! ### a link has its place -/
def AtPlace (S : PV) (l : Lk) : Prop := ∃ c, S.find l.cu = some c ∧ 1 ≤ l.nu ∧ l.nu ≤ c.recs.length ∧ 1 ≤ l.ve ∧ l.ve ≤ (c.recs.getD (l.nu - 1).toNat []).length ∧ (c.recs.getD (l.nu - 1).toNat []).getD (l.ve - 1).toNat Lk.nil = l
theorem find_put1 {S : PV} {l : Lk} (h1 : l.op = 1) {n : ByteArray} {c : PC} (hf : S.find n = some c) : (putS S l).find n = some c := by
  unfold putS; rw [if_pos h1]
  unfold PV.find at hf ⊢
  simp only [List.find?_append, hf, Option.some_or]
theorem find_put2 {S : PV} {l : Lk} (h1 : ¬ l.op = 1) (h2 : l.op = 2) (n : ByteArray) : (putS S l).find n = S.find n := by
  unfold putS; rw [if_neg h1, if_pos h2]; rfl
theorem putC_keeps (m : Lk) (c : PC) (i j : Nat) (hi : i < c.recs.length) (hj : j < (c.recs.getD i []).length) :
    i < (putC m c).recs.length ∧ j < ((putC m c).recs.getD i []).length ∧ ((putC m c).recs.getD i []).getD j Lk.nil = (c.recs.getD i []).getD j Lk.nil := by
  unfold putC
  split
  · have e : (c.recs ++ [[m]]).getD i [] = c.recs.getD i [] := by
      rw [List.getD_eq_getElem?_getD, List.getElem?_append_left hi, ← List.getD_eq_getElem?_getD]
    simp only
    rw [e]
    exact ⟨by rw [List.length_append]; omega, hj, rfl⟩
  · split
    · simp only
      by_cases q : (m.nu - 1).toNat = i
      · have e : (c.recs.set (m.nu - 1).toNat (c.recs.getD (m.nu - 1).toNat [] ++ [m])).getD i [] = c.recs.getD i [] ++ [m] := by
          rw [q, List.getD_eq_getElem?_getD, List.getElem?_set_self hi]; rfl
        rw [e]
        refine ⟨by rw [List.length_set]; exact hi, by rw [List.length_append]; omega, ?_⟩
        rw [List.getD_eq_getElem?_getD, List.getElem?_append_left hj, ← List.getD_eq_getElem?_getD]
      · have e : (c.recs.set (m.nu - 1).toNat (c.recs.getD (m.nu - 1).toNat [] ++ [m])).getD i [] = c.recs.getD i [] := by
          rw [List.getD_eq_getElem?_getD, List.getElem?_set_ne q, ← List.getD_eq_getElem?_getD]
        rw [e]
        exact ⟨by simpa using hi, hj, rfl⟩
    · exact ⟨hi, hj, rfl⟩
theorem AtPlace.put {S : PV} {l m : Lk} (h : AtPlace S l) : AtPlace (putS S m) l := by
  obtain ⟨c, hf, a1, a2, a3, a4, a5⟩ := h
  by_cases h1 : m.op = 1
  · exact ⟨c, find_put1 h1 hf, a1, a2, a3, a4, a5⟩
  · by_cases h2 : m.op = 2
    · exact ⟨c, by rw [find_put2 h1 h2, hf], a1, a2, a3, a4, a5⟩
    · have hf2 : (putS S m).find l.cu = some (if c.name = m.cu then putC m c else c) := by rw [putS_find S m h1 h2, hf]; rfl
      refine ⟨_, hf2, ?_⟩
      split
      · obtain ⟨k1, k2, k3⟩ := putC_keeps m c (l.nu - 1).toNat (l.ve - 1).toNat (by omega) (by omega)
        exact ⟨a1, by omega, a3, by omega, by rw [k3, a5]⟩
      · exact ⟨a1, a2, a3, a4, a5⟩
theorem AtPlace.new {S : PV} {l : Lk} (hg : PVOk S) (h : couldB S l = true) (h3 : l.op = 3 ∨ l.op = 4) : AtPlace (putS S l) l := by
  obtain ⟨c, hf⟩ := could_c h (by omega) (by omega)
  have hf2 : (putS S l).find l.cu = some (putC l c) := by
    rw [putS_find S l (by omega) (by omega), hf]; simp [(find_mem hf).2]
  refine ⟨_, hf2, ?_⟩
  rcases h3 with h3 | h4
  · obtain ⟨q1, q2, q3, -⟩ := could_3 h h3 hf
    unfold putC; rw [if_pos h3]
    have e : (c.recs ++ [[l]]).getD (l.nu - 1).toNat [] = [l] := by
      rw [List.getD_eq_getElem?_getD, List.getElem?_append_right (by omega), show (l.nu - 1).toNat - c.recs.length = 0 by omega]; rfl
    simp only [e]
    refine ⟨by omega, by simp; omega, by omega, by simp; omega, ?_⟩
    rw [show (l.ve - 1).toNat = 0 by omega]; rfl
  · obtain ⟨q1, q2⟩ := could_4 h h4 hf
    obtain ⟨s1, s2, s3, -⟩ := findR_ok (could_rec h (by omega) (by omega) (by omega) hf)
    rw [s3] at q1
    unfold putC; rw [if_neg (by omega), if_pos h4]
    have e : (c.recs.set (l.nu - 1).toNat (c.recs.getD (l.nu - 1).toNat [] ++ [l])).getD (l.nu - 1).toNat [] = c.recs.getD (l.nu - 1).toNat [] ++ [l] := by
      rw [List.getD_eq_getElem?_getD, List.getElem?_set_self (by omega)]; rfl
    simp only [e]
    refine ⟨s1, by rw [List.length_set]; omega, by omega, by rw [List.length_append]; simp only [List.length_singleton]; omega, ?_⟩
    rw [List.getD_eq_getElem?_getD, List.getElem?_append_right (by omega), show (l.ve - 1).toNat - (c.recs.getD (l.nu - 1).toNat []).length = 0 by omega]; rfl
theorem Good.places {S : PV} (h : Good S) : ∀ l ∈ S.chain, (l.op = 3 ∨ l.op = 4) → AtPlace S l := by
  induction h with
  | new => intro l hl; simp [PV.new] at hl
  | put hS hc _ ih =>
    intro l hl h3
    rw [putS_chain] at hl
    rcases List.mem_append.1 hl with hl | hl
    · exact (ih l hl h3).put
    · simp at hl; subst hl
      exact AtPlace.new hS.ok hc h3
/-! ### vaults but for Bodies -/
def pj (l : Lk) : Lk := { l with bo := List.replicate l.bo.length 0, ch := 0 }
def pjP (c : PC) : PC := { c with recs := c.recs.map (List.map pj), shares := c.shares.map fun q => (q.1, pj q.2) }
def pjV (S : PV) : PV := ⟨S.cus.map pjP, S.day, S.adv, S.chain.map pj⟩
theorem until_pj (r : List Lk) : untilR (r.map pj) = untilR r := by cases r <;> rfl
theorem getD_mapj (rs : List (List Lk)) (i : Nat) : (rs.map (List.map pj)).getD i [] = (rs.getD i []).map pj := by
  simp only [List.getD_eq_getElem?_getD, List.getElem?_map]
  cases rs[i]? <;> rfl
theorem find_pj (c : PC) (n d : Int) : findR (pjP c) n d = ((findR c n d).1.map pj, (findR c n d).2) := by
  unfold findR
  have hl : (pjP c).recs.length = c.recs.length := by simp [pjP]
  have hg : ∀ i, (pjP c).recs.getD i [] = (c.recs.getD i []).map pj := fun i => getD_mapj c.recs i
  rw [hl, hg, until_pj]
  split
  · rfl
  · split <;> rfl
theorem putShare_pj (k : Int × ByteArray) (l : Lk) (ss : List ((Int × ByteArray) × Lk)) : (putShare k l ss).map (fun q => (q.1, pj q.2)) = putShare k (pj l) (ss.map fun q => (q.1, pj q.2)) := by
  induction ss with
  | nil => rfl
  | cons p ps ih =>
    simp only [putShare, List.map_cons]
    by_cases h : p.1 = k
    · rw [if_pos h, if_pos h]; rfl
    · rw [if_neg h, if_neg h, List.map_cons, ih]
theorem putC_pj (l : Lk) (c : PC) : pjP (putC l c) = putC (pj l) (pjP c) := by
  have ho : (pj l).op = l.op := rfl
  have hn : (pj l).nu = l.nu := rfl
  have hk : (pj l).ki = l.ki := rfl
  unfold putC
  rw [ho, hn, hk]
  split
  · simp [pjP]
  · split
    · simp only [pjP, List.map_set, List.map_append, List.map_cons, List.map_nil, PC.mk.injEq, and_true, true_and]
      congr 1
      rw [getD_mapj]
    · simp [pjP, putShare_pj]
theorem pjV_find (S : PV) (n : ByteArray) : (pjV S).find n = (S.find n).map pjP := by
  unfold PV.find pjV
  exact find_map _ _ _ fun c => rfl
theorem putS_pj (S : PV) (l : Lk) : putS (pjV S) (pj l) = pjV (putS S l) := by
  have ho : (pj l).op = l.op := rfl
  have hcu : (pj l).cu = l.cu := rfl
  have htg : (pj l).tag = l.tag := rfl
  have hda : (pj l).da = l.da := rfl
  unfold putS
  rw [ho, hcu, htg, hda]
  split
  · simp [pjV, pjP]
  · split
    · simp [pjV]
    · simp only [pjV, List.map_append, List.map_cons, List.map_nil, List.map_map, PV.mk.injEq, true_and, and_true]
      refine List.map_congr_left fun c _ => ?_
      simp only [Function.comp]
      have : (pjP c).name = c.name := rfl
      rw [this]
      split
      · rw [putC_pj]
      · rfl
theorem plain_pj (l : Lk) : plainB (pj l) = plainB l := by
  unfold plainB pj
  simp only [List.length_replicate]
theorem could_pj (S : PV) (l : Lk) : couldB (pjV S) (pj l) = couldB S l := by
  have hl : (pjV S).cus.length = S.cus.length := by simp [pjV]
  have hb : (pj l).bo.length = l.bo.length := by simp [pj]
  have hd : (pjV S).day = S.day := rfl
  have ha : (pjV S).adv = S.adv := rfl
  have hi : ∀ n, ((pjV S).find n).isSome = (S.find n).isSome := fun n => by rw [pjV_find]; simp
  have hi2 : ∀ n, ((pjV S).find n).isNone = (S.find n).isNone := fun n => by rw [pjV_find]; simp
  have e1 : (pj l).op = l.op := rfl
  have e2 : (pj l).cu = l.cu := rfl
  have e3 : (pj l).ki = l.ki := rfl
  have e4 : (pj l).nu = l.nu := rfl
  have e5 : (pj l).ve = l.ve := rfl
  have e6 : (pj l).da = l.da := rfl
  have e7 : (pj l).un = l.un := rfl
  unfold couldB
  rw [plain_pj, e1, e2, e3, e4, e5, e6, e7, hl, hb, hd, ha, hi, hi2, pjV_find]
  cases hf : S.find l.cu with
  | none => rfl
  | some c =>
    have h1 : (pjP c).recs.length = c.recs.length := by simp [pjP]
    have h2 : (pjP c).made = c.made := rfl
    simp only [Option.map_some, h1, h2, find_pj, List.length_map, hi]
theorem puts_pj : ∀ (ls : List Lk) (S : PV), putsP (pjV S) (ls.map pj) = (putsP S ls).map pjV
  | [], S => rfl
  | l :: ls, S => by
    simp only [List.map_cons, putsP, could_pj]
    split
    · rw [putS_pj, puts_pj ls]
    · rfl
/-! ### chains made right again -/
def reCh : Nat → List Lk → List Lk
  | _, [] => []
  | b, l :: ls => withCh l (chainN b l) :: reCh (chainN b l) ls
theorem chainN_ch (b : Nat) (l : Lk) (n : Nat) : chainN b (withCh l n) = chainN b l := by unfold chainN withCh; rfl
theorem reCh_check : ∀ (ls : List Lk) (b i : Nat), checkI b i (reCh b ls) = -1
  | [], _, _ => rfl
  | l :: ls, b, i => by
    rw [reCh, checkI_cons, if_pos (by rw [chainN_ch]; rfl)]
    exact reCh_check ls _ _
theorem reCh_pj : ∀ (ls : List Lk) (b : Nat), (reCh b ls).map pj = ls.map pj
  | [], _ => rfl
  | l :: ls, b => by
    rw [reCh, List.map_cons, List.map_cons, reCh_pj ls]; rfl
theorem reCh_len : ∀ (ls : List Lk) (b : Nat), (reCh b ls).length = ls.length
  | [], _ => rfl
  | l :: ls, b => by rw [reCh, List.length_cons, List.length_cons, reCh_len ls]
theorem reCh_get : ∀ (ls : List Lk) (b k : Nat) (h : k < ls.length), ∃ n, (reCh b ls)[k]? = some (withCh ls[k] n)
  | [], _, _, h => by simp at h
  | l :: ls, b, 0, _ => ⟨_, rfl⟩
  | l :: ls, b, k + 1, h => by
    obtain ⟨n, hn⟩ := reCh_get ls (chainN b l) k (by simpa using h)
    exact ⟨n, by rw [reCh, List.getElem?_cons_succ, hn]; rfl⟩
/-- A chain whose Bodies were changed, made right again, can be loaded. -/
theorem again_load {S : PV} (hg : Good S) {ls : List Lk} (h : ls.map pj = S.chain.map pj) : loadE (reCh 7 ls) = 0 ∧ pjV (loadS (reCh 7 ls)) = pjV S ∧ Good (loadS (reCh 7 ls)) ∧ (loadS (reCh 7 ls)).chain = reCh 7 ls := by
  have hlen : ls.length = S.chain.length := by have := congrArg List.length h; simpa using this
  have hsh := hg.inv.short
  have hck := reCh_check ls 7 0
  have h1 := puts_pj (reCh 7 ls) PV.new
  have h2 := puts_pj S.chain PV.new
  rw [hg.puts] at h2
  rw [reCh_pj, h, h2] at h1
  cases e : putsP PV.new (reCh 7 ls) with
  | none => rw [e] at h1; cases h1
  | some T =>
    rw [e] at h1
    have hT : pjV T = pjV S := (Option.some.inj h1).symm
    have hl : loadS (reCh 7 ls) = T := by unfold loadS; rw [e]; rfl
    have hgT := good_puts (by rw [hck]; omega) (reCh 7 ls).length (Nat.le_refl _) T (by rw [List.take_length]; exact e)
    refine ⟨?_, by rw [hl, hT], by rw [hl]; exact hgT, by rw [hl, putsP_chain _ _ _ e]; simp [PV.new]⟩
    unfold loadE
    rw [hck, e, if_neg (by rw [reCh_len]; omega), if_neg (by omega)]; rfl
end Go.Proofs.Ytlahejakcgoheaa
