/-
  Plain words of chapter 10 (hall): other customers' campaigns turned, and one cut in two. No program in sight.
-/
import Derived.Test.YtjpgignbjkgjiaaP23
import Derived.Test.YtjpgignbjkgjiaaR25
set_option linter.unusedVariables false
namespace Go.Proofs.Ytjpgignbjkgjiaa
def pickS (ch : List Int) (i : Nat) : Int := if ch.length = 0 then 0 else nth ch (i % ch.length)
theorem pickS_bd {ch : List Int} (h : ∀ j, j < ch.length → 0 ≤ nth ch j ∧ nth ch j ≤ 255) (i : Nat) : 0 ≤ pickS ch i ∧ pickS ch i ≤ 255 := by
  unfold pickS
  by_cases e : ch.length = 0
  · rw [if_pos e]; omega
  · rw [if_neg e]; exact h _ (Nat.mod_lt _ (by omega))
def nextC (cl cu : Int) (c : Camp) : Int := if ¬ (c.cu + 1) % 21 = cu ∧ cl = 0 then (c.cu + 1) % 21 else c.cu
def othC (n : Nat) (cl cu : Int) (c : Camp) (t k : Int) : Camp := ⟨nextC cl cu c, k % (t - c.ea + 1) % 25, c.ho, k * 3, c.ea, n, k % 100⟩
def othI (n : Nat) (cl cu : Int) (l : List Camp) (p ch : List Int) (i : Nat) : Camp := if (cth l i).cu = cu then cth l i else othC n cl cu (cth l i) (nth p i) (pickS ch i)
def othTo (n : Nat) (cl cu : Int) (l : List Camp) (p ch : List Int) (k : Nat) : List Camp := (List.range l.length).map fun i => if i < k then othI n cl cu l p ch i else cth l i
section
variable (n : Nat) (cl cu : Int) (l : List Camp) (p ch : List Int)
theorem othTo_len (k : Nat) : (othTo n cl cu l p ch k).length = l.length := by simp [othTo]
theorem cth_othTo (k i : Nat) (h : i < l.length) : cth (othTo n cl cu l p ch k) i = if i < k then othI n cl cu l p ch i else cth l i := by
  rw [cth_eq _ _ (by rw [othTo_len]; exact h)]; simp [othTo]
theorem othTo_zero : othTo n cl cu l p ch 0 = l := ext_cth _ _ (othTo_len ..) fun i hi => by
  rw [othTo_len] at hi
  rw [cth_othTo _ _ _ _ _ _ _ _ hi, if_neg (by omega)]
theorem othTo_skip (k : Nat) (hk : k < l.length) (h : (cth l k).cu = cu) : othTo n cl cu l p ch (k + 1) = othTo n cl cu l p ch k := ext_cth _ _ (by rw [othTo_len, othTo_len]) fun i hi => by
  rw [othTo_len] at hi
  rw [cth_othTo _ _ _ _ _ _ _ _ hi, cth_othTo _ _ _ _ _ _ _ _ hi]
  by_cases e : i = k
  · subst e; rw [if_pos (by omega), if_neg (by omega), othI, if_pos h]
  · by_cases h2 : i < k
    · rw [if_pos h2, if_pos (by omega)]
    · rw [if_neg h2, if_neg (by omega)]
theorem othTo_put (k : Nat) (hk : k < l.length) (h : ¬ (cth l k).cu = cu) (c : Camp) (hc : c = othC n cl cu (cth l k) (nth p k) (pickS ch k)) : (othTo n cl cu l p ch k).set k c = othTo n cl cu l p ch (k + 1) := ext_cth _ _ (by rw [List.length_set, othTo_len, othTo_len]) fun i hi => by
  rw [List.length_set, othTo_len] at hi
  rw [cth_set _ _ _ _ (by rw [othTo_len]; exact hi), cth_othTo _ _ _ _ _ _ _ _ hi, cth_othTo _ _ _ _ _ _ _ _ hi]
  by_cases e : i = k
  · subst e; rw [if_pos rfl, if_pos (by omega), othI, if_neg h, hc]
  · rw [if_neg e]
    by_cases h2 : i < k
    · rw [if_pos h2, if_pos (by omega)]
    · rw [if_neg h2, if_neg (by omega)]
end
theorem set_set (cs : List Camp) (k : Nat) (a b : Camp) : (cs.set k a).set k b = cs.set k b := by simp
/-- The hall with all that it can have. -/
def richR (ha : Hal) : Hal := { ha with ro := 4, en := List.replicate ha.en.length 1000 }
def richTo (en : List Int) (k : Nat) : List Int := List.replicate k 1000 ++ en.drop k
theorem richTo_zero (en : List Int) : richTo en 0 = en := by simp [richTo]
theorem richTo_end (en : List Int) : richTo en en.length = List.replicate en.length 1000 := by simp [richTo]
theorem richTo_len (en : List Int) (k : Nat) (h : k ≤ en.length) : (richTo en k).length = en.length := by simp [richTo]; omega
theorem richTo_succ (en : List Int) (k : Nat) (h : k < en.length) : (richTo en k).set k 1000 = richTo en (k + 1) := by
  unfold richTo
  rw [List.set_append_right _ _ (by simp)]
  simp only [List.length_replicate, Nat.sub_self]
  rw [List.drop_eq_getElem_cons h, List.set_cons_zero, List.replicate_succ']
  simp
theorem nth_rep (m i : Nat) (h : i < m) : nth (List.replicate m (1000 : Int)) i = 1000 := by
  rw [nth_eq _ _ (by simpa using h)]; simp
section
variable {ha : Hal} {l : List Camp} {p ch : List Int} {cu : Int}
theorem oth_vh (hv : VH ha l) (hb : (breachS ha l p).ru = 0) (hch : ∀ i, 0 ≤ pickS ch i ∧ pickS ch i ≤ 255) : VH (richR ha) (othTo ha.st.length ha.cl cu l p ch l.length) := by
  refine ⟨hv.n1, hv.n2, by simp [richR, hv.en], hv.st, fun i hi => ?_, by simp [richR], by simp [richR], hv.c0, hv.c1, by rw [othTo_len]; exact hv.ll, fun i hi => ?_⟩
  · show 0 ≤ nth (List.replicate ha.en.length 1000) i ∧ _
    have hi' : i < ha.en.length := by rw [hv.en]; exact hi
    have : nth (richR ha).en i = 1000 := nth_rep _ _ hi'
    show 0 ≤ nth (richR ha).en i ∧ nth (richR ha).en i ≤ 1000
    omega
  · rw [othTo_len] at hi
    rw [cth_othTo _ _ _ _ _ _ _ _ hi, if_pos hi, othI]
    have hci := hv.cb i hi
    by_cases e : (cth l i).cu = cu
    · rw [if_pos e]; exact hci
    · rw [if_neg e]
      have hoi := okAt_of_breach hb hi
      have hit := ((okAt_hours (okAt_nonneg hci.ea0 hci.pr0 hoi)).1 hoi).1
      rw [inTimeB_iff] at hit
      obtain ⟨h1, h2⟩ := hch i
      obtain ⟨a, b, d, q, f, g, k, m, o, r, s, t, u⟩ := hci
      have hx : 0 ≤ pickS ch i % (nth p i - (cth l i).ea + 1) := Int.emod_nonneg _ (by omega)
      unfold othC
      refine ⟨?_, ?_, ?_, ?_, f, g, ?_, ?_, o, ?_, Int.le_refl _, ?_, ?_⟩
      · simp only [nextC]; split <;> omega
      · simp only [nextC]; split <;> omega
      · show 0 ≤ pickS ch i % (nth p i - (cth l i).ea + 1) % 25
        omega
      · show pickS ch i % (nth p i - (cth l i).ea + 1) % 25 ≤ 24
        omega
      · show 0 ≤ pickS ch i * 3
        omega
      · show pickS ch i * 3 ≤ 1000
        omega
      · show (cth l i).ea ≤ (ha.st.length : Int)
        omega
      · show 0 ≤ pickS ch i % 100
        omega
      · show pickS ch i % 100 ≤ 100
        omega
theorem oth_cu {i : Nat} (h : ¬ (cth l i).cu = cu) (n : Nat) (cl t k : Int) : ¬ (othC n cl cu (cth l i) t k).cu = cu := by
  show ¬ nextC cl cu (cth l i) = cu
  unfold nextC
  split
  · rename_i h2; exact h2.1
  · exact h
/-- What is seen is the same, or the rules are broken. -/
theorem oth_view (hv : VH ha l) (hpl : p.length = l.length) (hb : (breachS ha l p).ru = 0) (hcu : wi cu 0 20 = true) (hch : ∀ i, 0 ≤ pickS ch i ∧ pickS ch i ≤ 255) :
    (viewE (richR ha) (othTo ha.st.length ha.cl cu l p ch l.length) p cu = 100) ∨ (viewE (richR ha) (othTo ha.st.length ha.cl cu l p ch l.length) p cu = 0 ∧ viewL (richR ha) (othTo ha.st.length ha.cl cu l p ch l.length) p cu = fl ha.st.length (viewF ha l p cu)) := by
  have hvo := oth_vh (cu := cu) hv hb hch
  have he := errS_is (campsB_of hvo) (q := p) (by rw [othTo_len]; exact hpl)
  by_cases h0 : (breachS (richR ha) (othTo ha.st.length ha.cl cu l p ch l.length) p).ru = 0
  · rw [if_pos h0] at he
    right
    have hE : viewE (richR ha) (othTo ha.st.length ha.cl cu l p ch l.length) p cu = 0 := by rw [viewE, if_pos he, hcu]; rfl
    refine ⟨hE, ?_⟩
    rw [viewL, if_pos hE]
    have hF : viewF (richR ha) (othTo ha.st.length ha.cl cu l p ch l.length) p cu = viewF ha l p cu := view_same (ha := ha) (ha' := richR ha) rfl rfl (othTo_len ..) fun j hj => by
      rw [cth_othTo _ _ _ _ _ _ _ _ hj, if_pos hj, othI]
      by_cases e : (cth l j).cu = cu
      · rw [if_pos e]; exact ⟨Iff.rfl, rfl, fun _ => rfl⟩
      · rw [if_neg e]
        exact ⟨⟨fun q => absurd q (oth_cu e _ _ _ _), fun q => absurd q e⟩, rfl, fun q => absurd q e⟩
    rw [hF]; rfl
  · rw [if_neg h0] at he
    left
    rw [viewE, if_neg (by omega), he]
/-- The campaigns and the plan, of which one may be cut. -/
def CutSt (N : Int) (l : List Camp) (p : List Int) (cu : Int) (l' : List Camp) (p' : List Int) : Prop :=
  (l' = l ∧ p' = p) ∨ ∃ i n, i < l.length ∧ ¬ (cth l i).cu = cu ∧ 1 ≤ n ∧ n < (cth l i).ho ∧ l' = cutL N l i n ∧ p' = cutP p i n
theorem cutSt_len {N : Int} {l' : List Camp} {p' : List Int} (hpl : p.length = l.length) (h : CutSt N l p cu l' p') : p'.length = l'.length ∧ l.length ≤ l'.length ∧ l'.length ≤ l.length + 1 ∧ (l'.length = l.length → l' = l ∧ p' = p) := by
  rcases h with ⟨rfl, rfl⟩ | ⟨i, n, h1, h2, h3, h4, rfl, rfl⟩
  · exact ⟨hpl, by omega, by omega, fun _ => ⟨rfl, rfl⟩⟩
  · rw [cutL_len]
    refine ⟨by simp [cutP, hpl], by omega, by omega, fun h => by omega⟩
theorem cut_sees (hv : VH ha l) (hl15 : l.length ≤ 15) (hpl : p.length = l.length) (hb : (breachS ha l p).ru = 0) (hcu : wi cu 0 20 = true) {l' : List Camp} {p' : List Int} (h : CutSt ha.st.length l p cu l' p') :
    viewE ha l' p' cu = 0 ∧ viewL ha l' p' cu = fl ha.st.length (viewF ha l p cu) := by
  have key : VH ha l' ∧ p'.length = l'.length ∧ (breachS ha l' p').ru = 0 ∧ viewF ha l' p' cu = viewF ha l p cu := by
    have hlen := cutSt_len hpl h
    rcases h with ⟨rfl, rfl⟩ | ⟨i, n, h1, h2, h3, h4, rfl, rfl⟩
    · exact ⟨hv, hpl, hb, rfl⟩
    · exact ⟨cut_vh hv hl15 h1 h3 h4 (hv.cb i h1).la1, hlen.1, cut_keeps hv hpl hb h1 h3 h4, cut_view hv hpl h1 h3 h4 h2⟩
  obtain ⟨k1, k2, k3, k4⟩ := key
  have he : errS ha l' p' = 0 := by rw [errS_is (campsB_of k1) k2, if_pos k3]
  have hE : viewE ha l' p' cu = 0 := by rw [viewE, if_pos he, hcu]; rfl
  exact ⟨hE, by rw [viewL, if_pos hE, k4]⟩
theorem firstC_put (N : Int) (c : Camp) (n : Int) : cput (cput c 2 n) 5 N = firstC N c n := rfl
theorem restC_put (c : Camp) (m : Int) (n : Int) (h : m = c.ho - n) : cput (cput c 1 0) 2 m = restC c n := by subst h; rfl
end
end Go.Proofs.Ytjpgignbjkgjiaa
