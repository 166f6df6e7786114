/-
  Plain words: a change is seen by Check; a chain that is made right again loads to a vault whose changed version does not open.
-/
import Derived.Test.YtlahejakcgoheaaQD
import Derived.Test.YtlahejakcgoheaaQB
import Derived.Test.YtlahejakcgoheaaTB
set_option linter.unusedVariables false
set_option linter.unusedSimpArgs false
namespace Go.Proofs.Ytlahejakcgoheaa
/-! ### Check -/
theorem checkI_set (ls : List Lk) (x : Lk) : ∀ (b i k : Nat), checkI b i ls = -1 → k < ls.length → chainN (lastB b (ls.take k)) x ≠ x.ch → checkI b i (ls.set k x) = ((i + k : Nat) : Int) := by
  induction ls with
  | nil => intro b i k _ h; simp at h
  | cons l ls ih =>
    intro b i k h0 h1 h2
    cases k with
    | zero =>
      have h2' : ¬ chainN b x = x.ch := h2
      rw [List.set_cons_zero, checkI_cons, if_neg h2', Nat.add_zero]
    | succ k =>
      rw [checkI_cons] at h0
      have h2' : chainN (lastB l.ch (ls.take k)) x ≠ x.ch := h2
      by_cases q : chainN b l = l.ch
      · rw [if_pos q] at h0
        rw [List.set_cons_succ, checkI_cons, if_pos q, ih l.ch (i + 1) k h0 (by simpa using h1) h2']
        omega
      · rw [if_neg q] at h0; omega
theorem checkI_at (ls : List Lk) : ∀ (b i k : Nat), checkI b i ls = -1 → (h : k < ls.length) → chainN (lastB b (ls.take k)) ls[k] = (ls[k]).ch := by
  induction ls with
  | nil => intro b i k _ h; simp at h
  | cons l ls ih =>
    intro b i k h0 h1
    rw [checkI_cons] at h0
    by_cases q : chainN b l = l.ch
    · rw [if_pos q] at h0
      cases k with
      | zero => exact q
      | succ k => exact ih l.ch (i + 1) k h0 (by simpa using h1)
    · rw [if_neg q] at h0; omega
/-! ### bytes of a link -/
def preB (l : Lk) : List UInt8 := UInt8.ofNat l.op :: (l.cu.data.toList ++ (0 :: (l.ki.data.toList ++ [0])))
def linkB (l : Lk) : List UInt8 := preB l ++ (numB (uw l.nu) 4 ++ (numB (uw l.ve) 4 ++ (numB (uw l.da) 4 ++ (numB (uw l.un) 4 ++ (numB l.tag 8 ++ l.bo)))))
theorem hb_hbs (h b : Nat) (hb' : b < 256) : hb h b = hbs h [UInt8.ofNat b] := by
  rw [hbs_cons, hbs_nil, UInt8.toNat_ofNat', Nat.mod_eq_of_lt hb']
theorem chainN_B (b : Nat) (l : Lk) (h : l.op < 256) : chainN b l = hbs (nh b) (linkB l) := by
  unfold chainN linkB preB
  rw [hb_hbs (nh b) l.op h, hb_hbs _ 0 (by omega), hb_hbs _ 0 (by omega)]
  simp only [← hbs_append]
  simp [List.append_assoc]
theorem numB4_inj {a b : Nat} (h : numB a 4 = numB b 4) : a % 4294967296 = b % 4294967296 := by
  simp only [numB, List.cons.injEq, and_true] at h
  obtain ⟨h3, h2, h1, h0⟩ := h
  have e3 := congrArg UInt8.toNat h3; have e2 := congrArg UInt8.toNat h2; have e1 := congrArg UInt8.toNat h1; have e0 := congrArg UInt8.toNat h0
  simp only [UInt8.toNat_ofNat', Nat.reduceMul, Nat.reducePow, Nat.div_one] at e3 e2 e1 e0
  omega
theorem uw_small {n : Int} (h0 : 0 ≤ n) (h1 : n < 4294967296) : uw n = n.toNat := by unfold uw; omega
theorem num_inj {a b : Int} (ha : 0 ≤ a ∧ a < 4294967296) (hb : 0 ≤ b ∧ b < 4294967296) (h : numB (uw a) 4 = numB (uw b) 4) : a = b := by
  have := numB4_inj h
  rw [uw_small ha.1 ha.2, uw_small hb.1 hb.2] at this
  omega
theorem mid_burst {s : Nat} {A B B' C : List UInt8} (hl : B.length = B'.length) (h7 : B.length ≤ 7) (h : hbs (nh s) (A ++ (B ++ C)) = hbs (nh s) (A ++ (B' ++ C))) : B = B' := hbs_burst s A B B' C hl h7 h
theorem chain_nu {b : Nat} {l : Lk} {v : Int} (ho : l.op < 256) (ha : 0 ≤ l.nu ∧ l.nu < 4294967296) (hv : 0 ≤ v ∧ v < 4294967296) (h : chainN b { l with nu := v } = chainN b l) : v = l.nu := by
  rw [chainN_B b _ (show ({ l with nu := v } : Lk).op < 256 from ho), chainN_B b l ho] at h
  have e : ∀ m : Int, linkB { l with nu := m } = preB l ++ (numB (uw m) 4 ++ (numB (uw l.ve) 4 ++ (numB (uw l.da) 4 ++ (numB (uw l.un) 4 ++ (numB l.tag 8 ++ l.bo))))) := fun m => rfl
  have e0 := e l.nu
  rw [show ({ l with nu := l.nu } : Lk) = l from rfl] at e0
  rw [e v, e0] at h
  exact num_inj hv ha (mid_burst (by rw [numB_len, numB_len]) (by rw [numB_len]; omega) h)
theorem chain_ve {b : Nat} {l : Lk} {v : Int} (ho : l.op < 256) (ha : 0 ≤ l.ve ∧ l.ve < 4294967296) (hv : 0 ≤ v ∧ v < 4294967296) (h : chainN b { l with ve := v } = chainN b l) : v = l.ve := by
  rw [chainN_B b _ (show ({ l with ve := v } : Lk).op < 256 from ho), chainN_B b l ho] at h
  have e : ∀ m : Int, linkB { l with ve := m } = (preB l ++ numB (uw l.nu) 4) ++ (numB (uw m) 4 ++ (numB (uw l.da) 4 ++ (numB (uw l.un) 4 ++ (numB l.tag 8 ++ l.bo)))) := fun m => by
    unfold linkB; rw [List.append_assoc]; rfl
  have e0 := e l.ve
  rw [show ({ l with ve := l.ve } : Lk) = l from rfl] at e0
  rw [e v, e0] at h
  exact num_inj hv ha (mid_burst (by rw [numB_len, numB_len]) (by rw [numB_len]; omega) h)
theorem chain_da {b : Nat} {l : Lk} {v : Int} (ho : l.op < 256) (ha : 0 ≤ l.da ∧ l.da < 4294967296) (hv : 0 ≤ v ∧ v < 4294967296) (h : chainN b { l with da := v } = chainN b l) : v = l.da := by
  rw [chainN_B b _ (show ({ l with da := v } : Lk).op < 256 from ho), chainN_B b l ho] at h
  have e : ∀ m : Int, linkB { l with da := m } = (preB l ++ (numB (uw l.nu) 4 ++ numB (uw l.ve) 4)) ++ (numB (uw m) 4 ++ (numB (uw l.un) 4 ++ (numB l.tag 8 ++ l.bo))) := fun m => by
    unfold linkB; simp only [List.append_assoc]; rfl
  have e0 := e l.da
  rw [show ({ l with da := l.da } : Lk) = l from rfl] at e0
  rw [e v, e0] at h
  exact num_inj hv ha (mid_burst (by rw [numB_len, numB_len]) (by rw [numB_len]; omega) h)
theorem chain_un {b : Nat} {l : Lk} {v : Int} (ho : l.op < 256) (ha : 0 ≤ l.un ∧ l.un < 4294967296) (hv : 0 ≤ v ∧ v < 4294967296) (h : chainN b { l with un := v } = chainN b l) : v = l.un := by
  rw [chainN_B b _ (show ({ l with un := v } : Lk).op < 256 from ho), chainN_B b l ho] at h
  have e : ∀ m : Int, linkB { l with un := m } = (preB l ++ (numB (uw l.nu) 4 ++ (numB (uw l.ve) 4 ++ numB (uw l.da) 4))) ++ (numB (uw m) 4 ++ (numB l.tag 8 ++ l.bo)) := fun m => by
    unfold linkB; simp only [List.append_assoc]; rfl
  have e0 := e l.un
  rw [show ({ l with un := l.un } : Lk) = l from rfl] at e0
  rw [e v, e0] at h
  exact num_inj hv ha (mid_burst (by rw [numB_len, numB_len]) (by rw [numB_len]; omega) h)
/-! ### a byte of Tag -/
theorem byteX (t v k i : Nat) (hv : v < 256) : UInt8.ofNat ((t ^^^ (v * 2 ^ (8 * k))) / 2 ^ (8 * i)) = if i = k then UInt8.ofNat (t / 2 ^ (8 * i)) ^^^ UInt8.ofNat v else UInt8.ofNat (t / 2 ^ (8 * i)) := by
  have e1 : (t ^^^ (v * 2 ^ (8 * k))) / 2 ^ (8 * i) = (t / 2 ^ (8 * i)) ^^^ (v * 2 ^ (8 * k) / 2 ^ (8 * i)) := by
    rw [← Nat.shiftRight_eq_div_pow, ← Nat.shiftRight_eq_div_pow, ← Nat.shiftRight_eq_div_pow, Nat.shiftRight_xor_distrib]
  have e2 : UInt8.ofNat ((t ^^^ (v * 2 ^ (8 * k))) / 2 ^ (8 * i)) = UInt8.ofNat (t / 2 ^ (8 * i)) ^^^ UInt8.ofNat (v * 2 ^ (8 * k) / 2 ^ (8 * i)) := by
    apply UInt8.toNat_inj.1
    rw [e1]
    simp only [UInt8.toNat_xor, UInt8.toNat_ofNat']
    exact Nat.xor_mod_two_pow
  rw [e2]
  have hpos : ∀ n : Nat, 0 < 2 ^ n := fun n => Nat.two_pow_pos n
  by_cases h : i = k
  · subst h
    rw [if_pos rfl, Nat.mul_div_cancel _ (hpos _)]
  · rw [if_neg h]
    have hz : UInt8.ofNat (v * 2 ^ (8 * k) / 2 ^ (8 * i)) = 0 := by
      apply UInt8.toNat_inj.1
      rw [UInt8.toNat_ofNat']
      show _ = 0
      rcases Nat.lt_or_ge i k with q | q
      · obtain ⟨d, rfl⟩ : ∃ d, k = i + 1 + d := ⟨k - i - 1, by omega⟩
        have : v * 2 ^ (8 * (i + 1 + d)) = (v * 2 ^ (8 * d) * 256) * 2 ^ (8 * i) := by
          rw [show 8 * (i + 1 + d) = 8 * d + 8 + 8 * i by omega, Nat.pow_add, Nat.pow_add]
          simp only [Nat.mul_assoc]
        rw [this, Nat.mul_div_cancel _ (hpos _)]
        omega
      · obtain ⟨d, rfl⟩ : ∃ d, i = k + 1 + d := ⟨i - k - 1, by omega⟩
        have : v * 2 ^ (8 * k) < 2 ^ (8 * (k + 1 + d)) := by
          rw [show 8 * (k + 1 + d) = 8 * d + 8 + 8 * k by omega, Nat.pow_add]
          refine Nat.mul_lt_mul_of_pos_right ?_ (hpos _)
          rw [Nat.pow_add]
          have := hpos (8 * d)
          have h8 : 2 ^ 8 = 256 := rfl
          rw [h8]
          omega
        rw [Nat.div_eq_of_lt this]
    rw [hz, UInt8.xor_zero]
theorem chain_tag {b : Nat} {l : Lk} {v k : Nat} (ho : l.op < 256) (hv0 : 1 ≤ v) (hv : v < 256) (hk : k ≤ 7) : chainN b { l with tag := l.tag ^^^ (v * 2 ^ (8 * k)) } ≠ chainN b l := by
  intro h
  rw [chainN_B b _ (show ({ l with tag := l.tag ^^^ (v * 2 ^ (8 * k)) } : Lk).op < 256 from ho), chainN_B b l ho] at h
  have e : ∀ m : Nat, linkB { l with tag := m } = (preB l ++ (numB (uw l.nu) 4 ++ (numB (uw l.ve) 4 ++ (numB (uw l.da) 4 ++ numB (uw l.un) 4)))) ++ (numB m 8 ++ l.bo) := fun m => by
    unfold linkB; simp only [List.append_assoc]; rfl
  have e0 := e l.tag
  rw [show ({ l with tag := l.tag } : Lk) = l from rfl] at e0
  rw [e, e0] at h
  have hne : UInt8.ofNat (l.tag / 2 ^ (8 * k)) ^^^ UInt8.ofNat v ≠ UInt8.ofNat (l.tag / 2 ^ (8 * k)) := fun q => by
    have := xor_same q
    have := congrArg UInt8.toNat this
    rw [UInt8.toNat_ofNat', Nat.mod_eq_of_lt hv] at this
    have h0 : (0 : UInt8).toNat = 0 := rfl
    omega
  have hcut : ∃ P Q : List UInt8, ∀ m : Nat, (∀ i, i ≠ k → UInt8.ofNat (m / 2 ^ (8 * i)) = UInt8.ofNat (l.tag / 2 ^ (8 * i))) → numB m 8 = P ++ ([UInt8.ofNat (m / 2 ^ (8 * k))] ++ Q) := by
    refine ⟨(numB l.tag 8).take (7 - k), (numB l.tag 8).drop (8 - k), fun m hm => ?_⟩
    have hk8 : k = 0 ∨ k = 1 ∨ k = 2 ∨ k = 3 ∨ k = 4 ∨ k = 5 ∨ k = 6 ∨ k = 7 := by omega
    rcases hk8 with rfl | rfl | rfl | rfl | rfl | rfl | rfl | rfl
    all_goals
      clear h e e0 hne
      have g0 := hm 0; have g1 := hm 1; have g2 := hm 2; have g3 := hm 3; have g4 := hm 4; have g5 := hm 5; have g6 := hm 6; have g7 := hm 7
      clear hm
      simp at g0 g1 g2 g3 g4 g5 g6 g7
      simp [numB, *]
  obtain ⟨P, Q, hPQ⟩ := hcut
  rw [hPQ l.tag fun i _ => rfl, hPQ _ fun i hi => by rw [byteX _ _ _ _ hv, if_neg hi]] at h
  rw [byteX _ _ _ _ hv, if_pos rfl] at h
  generalize preB l ++ (numB (uw l.nu) 4 ++ (numB (uw l.ve) 4 ++ (numB (uw l.da) 4 ++ numB (uw l.un) 4))) = PRE at h
  have hh : ∀ z : UInt8, PRE ++ ((P ++ ([z] ++ Q)) ++ l.bo) = (PRE ++ P) ++ ([z] ++ (Q ++ l.bo)) := fun z => by simp only [List.append_assoc]
  rw [hh, hh] at h
  have hb := hbs_burst b (PRE ++ P) [UInt8.ofNat (l.tag / 2 ^ (8 * k)) ^^^ UInt8.ofNat v] [UInt8.ofNat (l.tag / 2 ^ (8 * k))] (Q ++ l.bo) rfl (by simp) h
  exact hne (List.cons.inj hb).1
/-! ### a burst in Body -/
theorem chain_bo {b : Nat} {l : Lk} (ho : l.op < 256) (bs : List UInt8) (at0 j : Nat) (hj : j ≤ 7) : (chainN b { l with bo := xorK l.bo bs at0 j } ≠ chainN b l) ↔ chgK l.bo bs at0 j = true := by
  rw [chainN_B b _ (show ({ l with bo := xorK l.bo bs at0 j } : Lk).op < 256 from ho), chainN_B b l ho]
  have e : ∀ m : List UInt8, linkB { l with bo := m } = (preB l ++ (numB (uw l.nu) 4 ++ (numB (uw l.ve) 4 ++ (numB (uw l.da) 4 ++ (numB (uw l.un) 4 ++ numB l.tag 8))))) ++ m := fun m => by
    unfold linkB; simp only [List.append_assoc]; rfl
  have e0 := e l.bo
  rw [show ({ l with bo := l.bo } : Lk) = l from rfl] at e0
  rw [e, e0]
  generalize preB l ++ (numB (uw l.nu) 4 ++ (numB (uw l.ve) 4 ++ (numB (uw l.da) 4 ++ (numB (uw l.un) 4 ++ numB l.tag 8)))) = PRE
  rw [hbs_append, hbs_append]
  generalize hH : hbs (nh b) PRE = H
  have hlt : H < p61 := by rw [← hH]; exact hbs_lt _ _ (nh_lt _)
  have hn : nh H = H := Nat.mod_eq_of_lt hlt
  have := burst_law H l.bo bs at0 j hj
  rw [hn] at this
  rw [← this]
  exact ⟨Ne.symm, Ne.symm⟩
end Go.Proofs.Ytlahejakcgoheaa
