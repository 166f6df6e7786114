/-
  Plain words of chapter 10 (hall), the eighteenth part: what stays in a new plan. No program in sight.
-/
import Derived.Test.YtjpgignbjkgjiaaP16
namespace Go.Proofs.Ytjpgignbjkgjiaa
/-- Whether a plan moves what has begun, or lets another one begin too early. -/
def movesQ (l : List Camp) (p : List Int) (now : Int) (q : List Int) (i : Nat) : Bool :=
  if nth p i < now + (cth l i).pr then !(nth q i == nth p i) else decide (nth q i < now + (cth l i).pr)
def staysB (l : List Camp) (p : List Int) (now : Int) (q : List Int) : Bool := (fIdx (movesQ l p now q) l.length).isNone
theorem stays_no {l : List Camp} {p : List Int} {now : Int} {q : List Int} {k : Nat} (hk : k < l.length) (h : movesQ l p now q k = true) (hf : ∀ j, j < k → movesQ l p now q j = false) : staysB l p now q = false := by
  unfold staysB; rw [fIdx_some hk h hf]; rfl
theorem stays_yes {l : List Camp} {p : List Int} {now : Int} {q : List Int} (hf : ∀ j, j < l.length → movesQ l p now q j = false) : staysB l p now q = true := by
  unfold staysB; rw [fIdx_none hf]; rfl
theorem stays_of {l : List Camp} {p : List Int} {now : Int} {q : List Int} (h : staysB l p now q = true) : ∀ j, j < l.length → movesQ l p now q j = false := by
  unfold staysB at h
  rcases fIdx_cases (movesQ l p now q) l.length with ⟨k, h1, h2, h3, h4⟩ | ⟨h1, h2⟩
  · rw [h4] at h; cases h
  · exact h1
theorem moves_mem {ha : Hal} {l : List Camp} {p : List Int} {now : Int} {q : List Int} {j : Nat} (h : nth q j ∈ rpH ha l p now j) : movesQ l p now q j = false := by
  unfold movesQ
  unfold rpH freeB at h
  by_cases hb : nth p j < now + (cth l j).pr
  · rw [if_pos hb]
    rw [if_neg (by simp; omega), List.mem_singleton] at h
    rw [h]; simp
  · rw [if_neg hb]
    rw [if_pos (by simp; omega), mem_hoursS] at h
    simp; omega
theorem mem_of_moves {ha : Hal} {l : List Camp} {p : List Int} {now : Int} {q : List Int} {j : Nat} (hq : nth q j < ha.st.length) (h : movesQ l p now q j = false) : nth q j ∈ rpH ha l p now j := by
  unfold movesQ at h
  unfold rpH freeB
  by_cases hb : nth p j < now + (cth l j).pr
  · rw [if_pos hb] at h
    rw [if_neg (by simp; omega), List.mem_singleton]
    simpa using h
  · rw [if_neg hb] at h
    rw [if_pos (by simp; omega), mem_hoursS]
    simp at h; omega
theorem rp_some {ha : Hal} {l : List Camp} {p : List Int} {now : Int} (hv : VH ha l) {q : List Int} {c : Int} (h : rpSt ha l p now = some (q, c)) :
    q.length = l.length ∧ (breachS ha l q).ru = 0 ∧ c = costTo l q l.length ∧ staysB l p now q = true := by
  rw [rpSt_all hv] at h
  obtain ⟨h1, h2, h3⟩ := allSt_some h
  rw [prodN_mem] at h1
  exact ⟨h1.1, h2, h3, stays_yes fun j hj => moves_mem (h1.2 j hj)⟩
theorem hour_lt {ha : Hal} {l : List Camp} (hv : VH ha l) {q : List Int} (hb : (breachS ha l q).ru = 0) {j : Nat} (hj : j < l.length) : 0 ≤ nth q j ∧ nth q j < ha.st.length := by
  have := okAt_hour (hv.cb j hj) (okAt_of_breach hb hj)
  omega
theorem rp_best {ha : Hal} {l : List Camp} {p : List Int} {now : Int} (hv : VH ha l) {q : List Int} (hl : q.length = l.length) (hb : (breachS ha l q).ru = 0) (hs : staysB l p now q = true) :
    ∃ r c, rpSt ha l p now = some (r, c) ∧ c ≤ costTo l q l.length := by
  rw [rpSt_all hv]
  refine allSt_best ?_ hb
  rw [prodN_mem]
  exact ⟨hl, fun j hj => mem_of_moves (hour_lt hv hb hj).2 (stays_of hs j hj)⟩
theorem rp_zero {ha : Hal} {l : List Camp} {p : List Int} (hv : VH ha l) (hb : (breachS ha l p).ru = 0) : rpSt ha l p 0 = bestSt ha l := by
  rw [rpSt_all hv, bestSt_all hv]
  have h1 : allSt ha l (fun j => startsS ha (cth l j) 0) = allSt ha l (rpH ha l p 0) := allSt_filter fun j hj => by
    have hf : freeB (cth l j) (nth p j) 0 = true := by
      have h1 := (okAt_iff.1 (okAt_of_breach hb hj)).1
      simp only [inTimeB, Bool.and_eq_true, decide_eq_true_eq] at h1
      have := (hv.cb j hj).ea0
      simp [freeB]; omega
    unfold rpH
    rw [if_pos hf]
    exact starts_hours (hv.cb j hj)
  have h2 : allSt ha l (fun j => startsS ha (cth l j) 0) = allSt ha l (fun _ => hoursS ha.st.length 0) := allSt_filter fun j hj => starts_hours0 (hv.cb j hj)
  rw [← h1, h2]
theorem errS_is {ha : Hal} {l : List Camp} {q : List Int} (hc : campsB ha l = true) (hl : q.length = l.length) : errS ha l q = if (breachS ha l q).ru = 0 then 0 else 100 := by
  simp [errS, checkE, hc, hl]
/-- What a new plan is, where it is asked for rightly. -/
theorem rp_is {ha : Hal} {l : List Camp} {p : List Int} {now : Int} (hc : campsB ha l = true) (hl : p.length = l.length) (h4 : l.length ≤ 4) (h0 : 0 ≤ now) (h1 : now ≤ ha.st.length) :
    rpE ha l p now = (if stFound (rpSt ha l p now) then 0 else 101) ∧ rpP ha l p now = stP (rpSt ha l p now) ∧ rpK ha l p now = stCost (rpSt ha l p now) := by
  have hf := (freeTo_bd l p now l.length).2
  have a1 : checkE ha l p.length = 0 := by simp [checkE, hc, hl]
  have a2 : wi now 0 ha.st.length = true := wi_iff.2 ⟨h0, h1⟩
  have a3 : freeTo l p now l.length ≤ 4 := by omega
  simp only [rpE, rpP, rpK, a1, a2, a3, if_true]
  exact ⟨trivial, trivial, trivial⟩
theorem best_is {ha : Hal} {l : List Camp} (hc : campsB ha l = true) (h4 : l.length ≤ 4) :
    bestE ha l = (if stFound (bestSt ha l) then 0 else 101) ∧ bestP ha l = stP (bestSt ha l) ∧ bestK ha l = stCost (bestSt ha l) := by
  simp only [bestE, bestP, bestK, hc, h4, if_true]
  exact ⟨trivial, trivial, trivial⟩
end Go.Proofs.Ytjpgignbjkgjiaa
