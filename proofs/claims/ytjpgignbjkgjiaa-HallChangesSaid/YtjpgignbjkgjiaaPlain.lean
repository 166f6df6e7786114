/-
  Texts merged: Plain, P2, P3, P4, P5, P6.
-/
section
/-
  Plain words of chapter 10 (hall): no program in sight.
-/
namespace Go.Proofs.Ytjpgignbjkgjiaa
/-- The i-th number (a name of its own, so that the walk does not spell it anew). -/
def nth (xs : List Int) (i : Nat) : Int := xs.getD i 0
theorem nth_eq (xs : List Int) (i : Nat) (h : i < xs.length) : nth xs i = xs[i] := by simp [nth, h]

/-- A campaign. -/
structure Camp where
  cu : Int
  pr : Int
  ho : Int
  en : Int
  ea : Int
  la : Int
  we : Int
def Camp.zero : Camp := ⟨0, 0, 0, 0, 0, 0, 0⟩
def cth (cs : List Camp) (i : Nat) : Camp := cs.getD i Camp.zero
theorem cth_eq (cs : List Camp) (i : Nat) (h : i < cs.length) : cth cs i = cs[i] := by simp [cth, h]
/-- A hall. -/
structure Hal where
  ro : Int
  cl : Int
  st : List Int
  en : List Int

def wi (n a b : Int) : Bool := decide (a ≤ n) && decide (n ≤ b)
theorem wi_iff {n a b : Int} : wi n a b = true ↔ a ≤ n ∧ n ≤ b := by simp [wi]
theorem wi_not {n a b : Int} : wi n a b = false ↔ n < a ∨ b < n := by simp [wi]; omega
theorem le_lt (a b : Int) : decide (a ≤ b) = !decide (b < a) := by
  rw [Bool.eq_iff_iff]; simp
def halB (h : Hal) : Bool := wi h.st.length 1 96 && h.en.length == h.st.length && h.st.all (wi · 0 1000) && h.en.all (wi · 0 1000) && wi h.ro 1 4 && wi h.cl 0 6
def campB (n : Int) (c : Camp) : Bool :=
  wi c.cu 0 20 && wi c.pr 0 24 && wi c.ho 1 24 && wi c.en 0 1000 && decide (0 ≤ c.ea) && decide (c.ea ≤ c.la) && decide (c.la ≤ n) && wi c.we 0 100
def campsB (h : Hal) (l : List Camp) : Bool := halB h && decide (l.length ≤ 16) && l.all (campB h.st.length)

/-- 0 where it is so, else the error's number. -/
def errIf (b : Bool) (e : Int) : Int := if b then 0 else e
theorem errIf_true {b : Bool} {e : Int} (h : b = true) : errIf b e = 0 := by simp [errIf, h]
theorem errIf_false {b : Bool} {e : Int} (h : b = false) : errIf b e = e := by simp [errIf, h]
/-- The error of a hall, campaigns and a plan of so many numbers. -/
def checkE (ha : Hal) (l : List Camp) (pn : Nat) : Int := if campsB ha l then (if pn = l.length then 0 else 5) else 2
def idxOr (o : Option Nat) : Int := match o with | some i => i | none => -1
section
variable {α : Type} (get : List α → Nat → α) (hg : ∀ (l : List α) (i : Nat) (h : i < l.length), get l i = l[i])
include hg
theorem findIdx_some (p : α → Bool) (xs : List α) (k : Nat) (hk : k < xs.length) (h : p (get xs k) = true) (hf : ∀ j, j < k → p (get xs j) = false) : xs.findIdx? p = some k := by
  rw [List.findIdx?_eq_some_iff_getElem]
  refine ⟨hk, by rw [← hg xs k hk]; exact h, fun j hj => ?_⟩
  rw [← hg xs j (by omega)]; simp [hf j hj]
theorem findIdx_none (p : α → Bool) (xs : List α) (hf : ∀ j, j < xs.length → p (get xs j) = false) : xs.findIdx? p = none := by
  rw [List.findIdx?_eq_none_iff]
  intro x hx
  obtain ⟨j, hj, rfl⟩ := List.getElem_of_mem hx
  rw [← hg xs j hj]; exact hf j hj
end
theorem any_idx {α : Type} (p : α → Bool) (xs : List α) : xs.any p = decide (idxOr (xs.findIdx? p) ≥ 0) := by
  cases h : xs.findIdx? p with
  | none => simp only [List.findIdx?_eq_none_iff] at h; simp [idxOr]; exact fun x hx => by simpa using h x hx
  | some i =>
    rw [List.findIdx?_eq_some_iff_getElem] at h
    obtain ⟨hi, hp, _⟩ := h
    have h0 : (0 : Int) ≤ (i : Int) := by omega
    simp [idxOr, h0]
    exact ⟨_, List.getElem_mem hi, hp⟩
/-- The bounds of a valid campaign. -/
structure CB (n : Int) (c : Camp) : Prop where
  cu0 : 0 ≤ c.cu
  cu1 : c.cu ≤ 20
  pr0 : 0 ≤ c.pr
  pr1 : c.pr ≤ 24
  ho0 : 1 ≤ c.ho
  ho1 : c.ho ≤ 24
  en0 : 0 ≤ c.en
  en1 : c.en ≤ 1000
  ea0 : 0 ≤ c.ea
  ea1 : c.ea ≤ c.la
  la1 : c.la ≤ n
  we0 : 0 ≤ c.we
  we1 : c.we ≤ 100
theorem campB_cb {n : Int} {c : Camp} (h : campB n c = true) : CB n c := by
  simp only [campB, Bool.and_eq_true, decide_eq_true_eq, wi_iff] at h
  obtain ⟨⟨⟨⟨⟨⟨⟨a, b⟩, d⟩, e⟩, f⟩, g⟩, i⟩, j⟩ := h
  exact ⟨a.1, a.2, b.1, b.2, d.1, d.2, e.1, e.2, f, g, i, j.1, j.2⟩
/-- A valid hall with its campaigns. -/
structure VH (ha : Hal) (l : List Camp) : Prop where
  n1 : 1 ≤ ha.st.length
  n2 : ha.st.length ≤ 96
  en : ha.en.length = ha.st.length
  st : ∀ i, i < ha.st.length → 0 ≤ nth ha.st i ∧ nth ha.st i ≤ 1000
  ee : ∀ i, i < ha.st.length → 0 ≤ nth ha.en i ∧ nth ha.en i ≤ 1000
  r0 : 1 ≤ ha.ro
  r1 : ha.ro ≤ 4
  c0 : 0 ≤ ha.cl
  c1 : ha.cl ≤ 6
  ll : l.length ≤ 16
  cb : ∀ i, i < l.length → CB ha.st.length (cth l i)
theorem campsB_vh {ha : Hal} {l : List Camp} (h : campsB ha l = true) : VH ha l := by
  simp only [campsB, halB, Bool.and_eq_true, decide_eq_true_eq, wi_iff, List.all_eq_true, beq_iff_eq] at h
  obtain ⟨⟨⟨⟨⟨⟨⟨a, b⟩, c⟩, d⟩, e⟩, f⟩, g⟩, i⟩ := h
  refine ⟨by omega, by omega, b, fun k hk => ?_, fun k hk => ?_, e.1, e.2, f.1, f.2, g, fun k hk => ?_⟩
  · rw [nth_eq _ _ hk]; exact c _ (List.getElem_mem hk)
  · have hk' : k < ha.en.length := by omega
    rw [nth_eq _ _ hk']; exact d _ (List.getElem_mem hk')
  · rw [cth_eq _ _ hk]; exact campB_cb (i _ (List.getElem_mem hk))
/-- The first of n numbers for which it is so. -/
def fIdx (q : Nat → Bool) (n : Nat) : Option Nat := (List.range n).find? q
theorem fIdx_some {q : Nat → Bool} {n k : Nat} (hk : k < n) (h : q k = true) (hf : ∀ j, j < k → q j = false) : fIdx q n = some k := by
  unfold fIdx
  rw [List.find?_range_eq_some]
  exact ⟨h, by simpa using hk, fun j hj => by simp [hf j hj]⟩
theorem fIdx_none {q : Nat → Bool} {n : Nat} (hf : ∀ j, j < n → q j = false) : fIdx q n = none := by
  unfold fIdx
  rw [List.find?_range_eq_none]
  exact fun j hj => by simp [hf j (by simpa using hj)]
theorem all_lt_succ {q : Nat → Bool} {k : Nat} {b : Bool} (hf : ∀ j, j < k → q j = b) (h : q k = b) : ∀ j, j < k + 1 → q j = b := fun j hj => by
  rcases Nat.lt_succ_iff_lt_or_eq.1 hj with h1 | h1
  · exact hf j h1
  · rw [h1]; exact h
def inTimeB (c : Camp) (t : Int) : Bool := decide (c.ea + c.pr ≤ t) && decide (t ≤ c.la - c.ho)
/-- The first hour of m from t on for which it is so, or -1. -/
def hourS (q : Int → Bool) (t : Int) (m : Nat) : Int := match fIdx (fun d => q (t + d)) m with | some d => t + d | none => -1
/-- A breach. -/
structure Br where
  ru : Int
  a : Int
  b : Int
  ho : Int
def Br.zero : Br := ⟨0, 0, 0, 0⟩
def nthZ (xs : List Int) (k : Int) : Int := nth xs k.toNat
def hStaff (ha : Hal) (c : Camp) (t : Int) : Int := hourS (fun k => nthZ ha.st k == 0) t c.ho.toNat
def hEnergy (ha : Hal) (c : Camp) (t : Int) : Int := hourS (fun k => decide (nthZ ha.en k < c.en)) t c.ho.toNat
def sgl3 (ha : Hal) (l : List Camp) (p : List Int) : Br :=
  match fIdx (fun i => decide (0 ≤ hEnergy ha (cth l i) (nth p i))) l.length with
  | some i => ⟨3, i, 0, hEnergy ha (cth l i) (nth p i)⟩
  | none => Br.zero
def sgl2 (ha : Hal) (l : List Camp) (p : List Int) : Br :=
  match fIdx (fun i => decide (0 ≤ hStaff ha (cth l i) (nth p i))) l.length with
  | some i => ⟨2, i, 0, hStaff ha (cth l i) (nth p i)⟩
  | none => sgl3 ha l p
/-- The breach of the rules 1 to 3. -/
def singleS (ha : Hal) (l : List Camp) (p : List Int) : Br :=
  match fIdx (fun i => !inTimeB (cth l i) (nth p i)) l.length with
  | some i => ⟨1, i, 0, 0⟩
  | none => sgl2 ha l p
def gapS (ha : Hal) (a b : Camp) : Int := if a.cu = b.cu then 0 else ha.cl
/-- Whether the runs of two campaigns keep rule 4. -/
def apartB (ha : Hal) (a b : Camp) (s t : Int) : Bool := decide (s + a.ho + gapS ha a b ≤ t) || decide (t + b.ho + gapS ha a b ≤ s)
def prepB (c : Camp) (t hour : Int) : Bool := decide (hour < t) && decide (t - hour ≤ c.pr)
/-- How many of the first k campaigns prepare in an hour. -/
def cntTo (l : List Camp) (p : List Int) : Nat → Int → Int
  | 0, _ => 0
  | k + 1, hour => cntTo l p k hour + if prepB (cth l k) (nth p k) hour then 1 else 0
theorem cntTo_bd (l : List Camp) (p : List Int) : ∀ k hour, 0 ≤ cntTo l p k hour ∧ cntTo l p k hour ≤ k
  | 0, _ => by simp [cntTo]
  | k + 1, hour => by
    have := cntTo_bd l p k hour
    simp only [cntTo]
    split <;> omega
/-- The list of a function's values. -/
def fl (n : Nat) (f : Nat → Int) : List Int := (List.range n).map f
theorem fl_len (n : Nat) (f : Nat → Int) : (fl n f).length = n := by simp [fl]
theorem nth_fl (n : Nat) (f : Nat → Int) (i : Nat) (h : i < n) : nth (fl n f) i = f i := by simp [fl, nth, h]
theorem fl_congr (n : Nat) (f g : Nat → Int) (h : ∀ i, i < n → f i = g i) : fl n f = fl n g := by
  unfold fl; exact List.map_congr_left fun i hi => h i (by simpa using hi)
/-- What breaks the rules. -/
def brRooms (ha : Hal) (l : List Camp) (p : List Int) : Br :=
  match fIdx (fun hour => decide (ha.ro < cntTo l p l.length hour)) ha.st.length with
  | some i => ⟨5, 0, 0, i⟩
  | none => Br.zero
/-- The first k behind i that is too near, or none. -/
def nearOf (ha : Hal) (l : List Camp) (p : List Int) (i : Nat) : Option Nat := fIdx (fun k => decide (i < k) && !apartB ha (cth l i) (cth l k) (nth p i) (nth p k)) l.length
def brTunnel (ha : Hal) (l : List Camp) (p : List Int) : Br :=
  match fIdx (fun i => (nearOf ha l p i).isSome) l.length with
  | some i => ⟨4, i, ((nearOf ha l p i).getD 0 : Nat), 0⟩
  | none => brRooms ha l p
def breachS (ha : Hal) (l : List Camp) (p : List Int) : Br := if (singleS ha l p).ru = 0 then brTunnel ha l p else singleS ha l p
end Go.Proofs.Ytjpgignbjkgjiaa
end
section
/-
  Plain words of chapter 10 (hall), the second part: no program in sight.
-/
namespace Go.Proofs.Ytjpgignbjkgjiaa
theorem fIdx_cases (q : Nat → Bool) (n : Nat) : (∃ k, k < n ∧ q k = true ∧ (∀ j, j < k → q j = false) ∧ fIdx q n = some k) ∨ ((∀ j, j < n → q j = false) ∧ fIdx q n = none) := by
  cases h : fIdx q n with
  | none =>
    right
    unfold fIdx at h
    rw [List.find?_range_eq_none] at h
    exact ⟨fun j hj => by simpa using h j (by simpa using hj), rfl⟩
  | some k =>
    left
    unfold fIdx at h
    rw [List.find?_range_eq_some] at h
    exact ⟨k, by simpa using h.2.1, h.1, fun j hj => by simpa using h.2.2 j hj, rfl⟩
theorem findIdx_fl (q : Int → Bool) (n : Nat) (f : Nat → Int) : (fl n f).findIdx? q = fIdx (fun i => q (f i)) n := by
  rcases fIdx_cases (fun i => q (f i)) n with ⟨k, h1, h2, h3, h4⟩ | ⟨h1, h2⟩
  · rw [h4]
    exact findIdx_some nth nth_eq q _ k (by rw [fl_len]; exact h1) (by rw [nth_fl _ _ _ h1]; exact h2) fun j hj => by rw [nth_fl _ _ _ (by omega)]; exact h3 j hj
  · rw [h2]
    exact findIdx_none nth nth_eq q _ fun j hj => by rw [fl_len] at hj; rw [nth_fl _ _ _ hj]; exact h1 j hj
theorem hourS_ge (q : Int → Bool) (t : Int) (m : Nat) (ht : 0 ≤ t) : -1 ≤ hourS q t m := by
  unfold hourS; split <;> omega
/-- Where the rules 1 to 3 are kept. -/
theorem single_ok {ha : Hal} {l : List Camp} {p : List Int} (h : (singleS ha l p).ru = 0) :
    (∀ i, i < l.length → inTimeB (cth l i) (nth p i) = true) ∧ (∀ i, i < l.length → hStaff ha (cth l i) (nth p i) < 0) ∧ (∀ i, i < l.length → hEnergy ha (cth l i) (nth p i) < 0) := by
  unfold singleS at h
  rcases fIdx_cases (fun i => !inTimeB (cth l i) (nth p i)) l.length with ⟨k, h1, h2, h3, h4⟩ | ⟨h1, h2⟩
  · rw [h4] at h; simp at h
  · rw [h2] at h
    simp only [sgl2] at h
    rcases fIdx_cases (fun i => decide (0 ≤ hStaff ha (cth l i) (nth p i))) l.length with ⟨k, g1, g2, g3, g4⟩ | ⟨g1, g2⟩
    · rw [g4] at h; simp at h
    · rw [g2] at h
      simp only [sgl3] at h
      rcases fIdx_cases (fun i => decide (0 ≤ hEnergy ha (cth l i) (nth p i))) l.length with ⟨k, k1, k2, k3, k4⟩ | ⟨k1, k2⟩
      · rw [k4] at h; simp at h
      · exact ⟨fun i hi => by simpa using h1 i hi, fun i hi => by simpa using g1 i hi, fun i hi => by simpa using k1 i hi⟩
theorem brRooms_eq (ha : Hal) (l : List Camp) (p : List Int) (k : Nat) (hk : fIdx (fun hour => decide (ha.ro < cntTo l p l.length hour)) ha.st.length = some k) : brRooms ha l p = ⟨5, 0, 0, k⟩ := by
  simp [brRooms, hk]
def errS (ha : Hal) (l : List Camp) (p : List Int) : Int := if checkE ha l p.length = 0 then (if (breachS ha l p).ru = 0 then 0 else 100) else checkE ha l p.length
def chkB (ha : Hal) (l : List Camp) (p : List Int) : Br := if checkE ha l p.length = 0 then (if (breachS ha l p).ru = 0 then Br.zero else breachS ha l p) else Br.zero
theorem checkE_zero {ha : Hal} {l : List Camp} {n : Nat} (h : checkE ha l n = 0) : VH ha l ∧ n = l.length := by
  unfold checkE at h
  split at h
  · split at h
    · exact ⟨campsB_vh (by assumption), by assumption⟩
    · omega
  · omega
theorem errS_zero {ha : Hal} {l : List Camp} {p : List Int} (h : errS ha l p = 0) : VH ha l ∧ p.length = l.length ∧ (breachS ha l p).ru = 0 := by
  unfold errS at h
  split at h
  · split at h
    · exact ⟨(checkE_zero (by assumption)).1, (checkE_zero (by assumption)).2, by assumption⟩
    · omega
  · omega
theorem breach_single {ha : Hal} {l : List Camp} {p : List Int} (h : (breachS ha l p).ru = 0) : (singleS ha l p).ru = 0 := by
  unfold breachS at h
  split at h
  · assumption
  · exact h
/-- The cost of the first k campaigns. -/
def costTo (l : List Camp) (p : List Int) : Nat → Int
  | 0 => 0
  | k + 1 => costTo l p k + (cth l k).we * (nth p k + (cth l k).ho)
theorem we_bd {n t : Int} {c : Camp} (hc : CB n c) (ht0 : 0 ≤ t) (ht : t ≤ 96) : 0 ≤ c.we * (t + c.ho) ∧ c.we * (t + c.ho) ≤ 12000 := by
  have h1 := hc.we0; have h2 := hc.we1; have h3 := hc.ho0; have h4 := hc.ho1
  constructor
  · exact Int.mul_nonneg h1 (by omega)
  · calc c.we * (t + c.ho) ≤ 100 * (t + c.ho) := Int.mul_le_mul_of_nonneg_right h2 (by omega)
      _ ≤ 12000 := by omega
theorem costTo_bd {n : Int} {l : List Camp} {p : List Int} (hc : ∀ i, i < l.length → CB n (cth l i)) (ht : ∀ i, i < l.length → 0 ≤ nth p i ∧ nth p i ≤ 96) : ∀ k, k ≤ l.length → 0 ≤ costTo l p k ∧ costTo l p k ≤ 12000 * k
  | 0, _ => by simp [costTo]
  | k + 1, h => by
    have h1 := costTo_bd hc ht k (by omega)
    have h2 := we_bd (hc k (by omega)) (ht k (by omega)).1 (ht k (by omega)).2
    simp only [costTo]
    omega
theorem VH.one {ha : Hal} {l : List Camp} {c : Camp} (h : VH ha l) (hc : CB ha.st.length c) : VH ha [c] :=
  ⟨h.n1, h.n2, h.en, h.st, h.ee, h.r0, h.r1, h.c0, h.c1, by simp, fun i hi => by
    have : i = 0 := by simp at hi; omega
    subst this; exact hc⟩
def okAt (ha : Hal) (c : Camp) (t : Int) : Bool := (singleS ha [c] [t]).ru == 0
/-- The first hours from t0 on, of d that are tried, with which a campaign keeps the rules 1 to 3. -/
def startsTo (ha : Hal) (c : Camp) (t0 : Int) : Nat → List Int
  | 0 => []
  | d + 1 => if okAt ha c (t0 + d) then startsTo ha c t0 d ++ [t0 + (d : Nat)] else startsTo ha c t0 d
theorem startsTo_len (ha : Hal) (c : Camp) (t0 : Int) : ∀ d, (startsTo ha c t0 d).length ≤ d
  | 0 => by simp [startsTo]
  | d + 1 => by
    have := startsTo_len ha c t0 d
    simp only [startsTo]; split <;> simp <;> omega
def starts0 (c : Camp) (now : Int) : Int := (if now > c.ea then now else c.ea) + c.pr
def startsS (ha : Hal) (c : Camp) (now : Int) : List Int := startsTo ha c (starts0 c now) (c.la - c.ho - starts0 c now + 1).toNat
end Go.Proofs.Ytjpgignbjkgjiaa
end
section
/-
  Plain words of chapter 10 (hall), the third part: the search. No program in sight.
-/
namespace Go.Proofs.Ytjpgignbjkgjiaa
def lth (left : List (List Int)) (i : Nat) : List Int := left.getD i []
theorem lth_eq (left : List (List Int)) (i : Nat) (h : i < left.length) : lth left i = left[i] := by simp [lth, h]
def leastTo (l : List Camp) (left : List (List Int)) : Nat → Int
  | 0 => 0
  | k + 1 => leastTo l left k + (cth l k).we * (nth (lth left k) 0 + (cth l k).ho)
abbrev St := Option (List Int × Int)
def isNone0 (xs : List Int) : Bool := xs.length == 0
def anyEmpty (left : List (List Int)) : Bool := left.any isNone0
def stCost (st : St) : Int := match st with | some (_, c) => c | none => 0
def stFound (st : St) : Bool := st.isSome
def pruned (l : List Camp) (left : List (List Int)) (st : St) : Bool := anyEmpty left || (stFound st && decide (stCost st ≤ leastTo l left l.length))
def keepS (ha : Hal) (l : List Camp) (i k : Nat) (t : Int) (xs : List Int) : List Int := xs.filter fun u => apartB ha (cth l i) (cth l k) t u
/-- The lists when the campaign i has the hour t, the first k of the others being looked at. -/
def nextTo (ha : Hal) (l : List Camp) (left : List (List Int)) (i : Nat) (t : Int) (k : Nat) : List (List Int) :=
  (List.range left.length).map fun j => if j = i then [t] else if j < k then keepS ha l i j t (lth left j) else lth left j
def nextS (ha : Hal) (l : List Camp) (left : List (List Int)) (i : Nat) (t : Int) : List (List Int) := nextTo ha l left i t left.length
def planOf (left : List (List Int)) : List Int := left.map (nth · 0)
def placeS (ha : Hal) (l : List Camp) : Nat → List (List Int) → St → St
  | 0, left, st => if pruned l left st then st else if (breachS ha l (planOf left)).ru = 0 then some (planOf left, costTo l (planOf left) l.length) else st
  | d + 1, left, st => if pruned l left st then st else (lth left (l.length - (d + 1))).foldl (fun st t => placeS ha l d (nextS ha l left (l.length - (d + 1)) t) st) st
theorem leastTo_bd {n : Int} {l : List Camp} {left : List (List Int)} (hc : ∀ i, i < l.length → CB n (cth l i)) (ht : ∀ i, i < l.length → 0 ≤ nth (lth left i) 0 ∧ nth (lth left i) 0 ≤ 96) : ∀ k, k ≤ l.length → 0 ≤ leastTo l left k ∧ leastTo l left k ≤ 12000 * k
  | 0, _ => by simp [leastTo]
  | k + 1, h => by
    have h1 := leastTo_bd hc ht k (by omega)
    have h2 := we_bd (hc k (by omega)) (ht k (by omega)).1 (ht k (by omega)).2
    simp only [leastTo]
    omega
theorem filter_take_succ (q : Int → Bool) (xs : List Int) (j : Nat) (h : j < xs.length) : (xs.take (j + 1)).filter q = if q (nth xs j) then (xs.take j).filter q ++ [nth xs j] else (xs.take j).filter q := by
  rw [List.take_succ_eq_append_getElem h, List.filter_append, nth_eq _ _ h]
  simp only [List.filter_cons, List.filter_nil]
  split <;> simp
theorem filter_len_le (q : Int → Bool) (xs : List Int) (j : Nat) (h : j ≤ xs.length) : ((xs.take j).filter q).length ≤ j := by
  have := List.length_filter_le q (xs.take j)
  rw [List.length_take] at this
  omega
theorem nth_snoc (ys : List Int) (v : Int) (i : Nat) : nth (ys ++ [v]) i = if i = ys.length then v else nth ys i := by
  unfold nth
  by_cases h : i = ys.length
  · simp [h]
  · rw [if_neg h]
    rcases Nat.lt_or_ge i ys.length with h1 | h1
    · simp [List.getElem?_append_left h1]
    · simp [List.getElem?_eq_none (show (ys ++ [v]).length ≤ i by simp; omega), List.getElem?_eq_none h1]
theorem ext_nth (xs ys : List Int) (hl : xs.length = ys.length) (h : ∀ i, i < xs.length → nth xs i = nth ys i) : xs = ys := by
  apply List.ext_getElem hl
  intro i h1 h2
  have := h i h1
  rwa [nth_eq _ _ h1, nth_eq _ _ h2] at this
end Go.Proofs.Ytjpgignbjkgjiaa
end
section
/-
  Plain words of chapter 10 (hall), the fourth part: what the search does to its lists. No program in sight.
-/
namespace Go.Proofs.Ytjpgignbjkgjiaa
/-- All hours are hours of a hall, and not too many. -/
def Bd (left : List (List Int)) : Prop := ∀ j, j < left.length → (lth left j).length ≤ 1000 ∧ ∀ q, q < (lth left j).length → 0 ≤ nth (lth left j) q ∧ nth (lth left j) q ≤ 96
theorem nth_mem {xs : List Int} {i : Nat} (h : i < xs.length) : nth xs i ∈ xs := by rw [nth_eq _ _ h]; exact List.getElem_mem h
theorem nextTo_len (ha : Hal) (l : List Camp) (left : List (List Int)) (i : Nat) (t : Int) (k : Nat) : (nextTo ha l left i t k).length = left.length := by simp [nextTo]
theorem lth_nextTo (ha : Hal) (l : List Camp) (left : List (List Int)) (i : Nat) (t : Int) (k j : Nat) (hj : j < left.length) :
    lth (nextTo ha l left i t k) j = if j = i then [t] else if j < k then keepS ha l i j t (lth left j) else lth left j := by
  rw [lth_eq _ _ (by rw [nextTo_len]; exact hj)]
  simp [nextTo]
theorem ext_lth (as bs : List (List Int)) (hl : as.length = bs.length) (h : ∀ i, i < as.length → lth as i = lth bs i) : as = bs := by
  apply List.ext_getElem hl
  intro i h1 h2
  have := h i h1
  rwa [lth_eq _ _ h1, lth_eq _ _ h2] at this
theorem lth_set (as : List (List Int)) (k j : Nat) (v : List Int) (hj : j < as.length) : lth (as.set k v) j = if j = k then v else lth as j := by
  rw [lth_eq _ _ (by simpa using hj), lth_eq _ _ hj, List.getElem_set]
  by_cases h : k = j
  · simp [h]
  · rw [if_neg h, if_neg (fun e => h e.symm)]
theorem nextTo_zero (ha : Hal) (l : List Camp) (left : List (List Int)) (i : Nat) (t : Int) : left.set i [t] = nextTo ha l left i t 0 := by
  refine ext_lth _ _ (by simp [nextTo_len]) fun j hj => ?_
  simp only [List.length_set] at hj
  rw [lth_set _ _ _ _ hj, lth_nextTo _ _ _ _ _ _ _ hj]
  simp
theorem nextTo_same (ha : Hal) (l : List Camp) (left : List (List Int)) (i : Nat) (t : Int) : nextTo ha l left i t i = nextTo ha l left i t (i + 1) := by
  refine ext_lth _ _ (by simp [nextTo_len]) fun j hj => ?_
  rw [nextTo_len] at hj
  rw [lth_nextTo _ _ _ _ _ _ _ hj, lth_nextTo _ _ _ _ _ _ _ hj]
  by_cases h : j = i
  · simp [h]
  · rw [if_neg h, if_neg h]
    by_cases h2 : j < i
    · rw [if_pos h2, if_pos (by omega)]
    · rw [if_neg h2, if_neg (by omega)]
theorem nextTo_succ (ha : Hal) (l : List Camp) (left : List (List Int)) (i : Nat) (t : Int) (k : Nat) (hk : k < left.length) (hki : k ≠ i) :
    (nextTo ha l left i t k).set k (keepS ha l i k t (lth (nextTo ha l left i t k) k)) = nextTo ha l left i t (k + 1) := by
  refine ext_lth _ _ (by simp [nextTo_len]) fun j hj => ?_
  simp only [List.length_set, nextTo_len] at hj
  rw [lth_set _ _ _ _ (by rw [nextTo_len]; exact hj), lth_nextTo _ _ _ _ _ (k + 1) _ hj, lth_nextTo _ _ _ _ _ _ _ hj, lth_nextTo _ _ _ _ _ _ _ hk]
  by_cases h : j = k
  · subst h
    rw [if_pos rfl, if_neg hki, if_neg hki, if_neg (by omega), if_pos (by omega)]
  · rw [if_neg h]
    by_cases h1 : j = i
    · rw [if_pos h1, if_pos h1]
    · rw [if_neg h1, if_neg h1]
      by_cases h2 : j < k
      · rw [if_pos h2, if_pos (by omega)]
      · rw [if_neg h2, if_neg (by omega)]
theorem nextTo_bd {ha : Hal} {l : List Camp} {left : List (List Int)} {i : Nat} {t : Int} (k : Nat) (h : Bd left) (ht : 0 ≤ t ∧ t ≤ 96) : Bd (nextTo ha l left i t k) := by
  intro j hj
  rw [nextTo_len] at hj
  rw [lth_nextTo _ _ _ _ _ _ _ hj]
  have h1 := h j hj
  have hall : ∀ y ∈ lth left j, 0 ≤ y ∧ y ≤ 96 := fun y hy => by
    obtain ⟨q, hq, rfl⟩ := List.getElem_of_mem hy
    have := h1.2 q hq
    rwa [nth_eq _ _ hq] at this
  split
  · refine ⟨by simp, fun q hq => ?_⟩
    obtain rfl : q = 0 := by simp at hq; omega
    exact ht
  · split
    · refine ⟨?_, fun q hq => ?_⟩
      · have := List.length_filter_le (fun u => apartB ha (cth l i) (cth l j) t u) (lth left j)
        unfold keepS; omega
      · have := nth_mem hq
        unfold keepS at this
        exact hall _ (List.mem_filter.1 this).1
    · exact h1
theorem planOf_fl (left : List (List Int)) : planOf left = fl left.length fun i => nth (lth left i) 0 := by
  apply List.ext_getElem
  · simp [planOf, fl]
  · intro i h1 h2
    simp only [planOf, List.length_map] at h1
    simp [planOf, fl, lth, h1]
theorem planOf_len (left : List (List Int)) : (planOf left).length = left.length := by simp [planOf]
theorem nth_planOf (left : List (List Int)) (i : Nat) (h : i < left.length) : nth (planOf left) i = nth (lth left i) 0 := by rw [planOf_fl, nth_fl _ _ _ h]
theorem notEmpty {left : List (List Int)} (h : anyEmpty left = false) : ∀ i, i < left.length → 0 < (lth left i).length := fun i hi => by
  simp only [anyEmpty, isNone0, List.any_eq_false] at h
  have := h _ (List.getElem_mem hi)
  rw [lth_eq _ _ hi]
  simp at this
  exact List.length_pos_iff.2 this
/-- The states while the hours of the campaign i are tried. -/
def foldTo (ha : Hal) (l : List Camp) (d : Nat) (left : List (List Int)) (i : Nat) (st : St) : Nat → St
  | 0 => st
  | k + 1 => placeS ha l d (nextS ha l left i (nth (lth left i) k)) (foldTo ha l d left i st k)
theorem foldTo_eq (ha : Hal) (l : List Camp) (d : Nat) (left : List (List Int)) (i : Nat) (st : St) : ∀ k, k ≤ (lth left i).length → foldTo ha l d left i st k = ((lth left i).take k).foldl (fun st t => placeS ha l d (nextS ha l left i t) st) st
  | 0, _ => rfl
  | k + 1, h => by
    rw [foldTo, foldTo_eq ha l d left i st k (by omega), List.take_succ_eq_append_getElem (by omega), List.foldl_append, nth_eq _ _ (by omega)]
    rfl
theorem placeS_zero_no (ha : Hal) (l : List Camp) (d : Nat) (left : List (List Int)) (st : St) (h : pruned l left st = true) : placeS ha l d left st = st := by
  cases d <;> simp [placeS, h]
theorem placeS_end (ha : Hal) (l : List Camp) (left : List (List Int)) (st : St) (h : pruned l left st = false) : placeS ha l 0 left st = if (breachS ha l (planOf left)).ru = 0 then some (planOf left, costTo l (planOf left) l.length) else st := by
  simp [placeS, h]
theorem placeS_step (ha : Hal) (l : List Camp) (d i : Nat) (hi : i + (d + 1) = l.length) (left : List (List Int)) (st : St) (h : pruned l left st = false) : placeS ha l (d + 1) left st = foldTo ha l d left i st (lth left i).length := by
  have e : l.length - (d + 1) = i := by omega
  rw [foldTo_eq _ _ _ _ _ _ _ (Nat.le_refl _), List.take_length]
  simp [placeS, h, e]
end Go.Proofs.Ytjpgignbjkgjiaa
end
section
/-
  Plain words of chapter 10 (hall), the fifth part: the best plan's lists. No program in sight.
-/
namespace Go.Proofs.Ytjpgignbjkgjiaa
def leftS (ha : Hal) (l : List Camp) (now : Int) : List (List Int) := l.map fun c => startsS ha c now
def bestSt (ha : Hal) (l : List Camp) : St := placeS ha l l.length (leftS ha l 0) none
theorem leftS_len (ha : Hal) (l : List Camp) (now : Int) : (leftS ha l now).length = l.length := by simp [leftS]
theorem lth_leftS (ha : Hal) (l : List Camp) (now : Int) (i : Nat) (h : i < l.length) : lth (leftS ha l now) i = startsS ha (cth l i) now := by
  rw [lth_eq _ _ (by rw [leftS_len]; exact h), cth_eq _ _ h]; simp [leftS]
theorem startsTo_mem (ha : Hal) (c : Camp) (t0 : Int) : ∀ d y, y ∈ startsTo ha c t0 d ↔ t0 ≤ y ∧ y < t0 + d ∧ okAt ha c y = true
  | 0, y => by simp [startsTo]; omega
  | d + 1, y => by
    have ih := startsTo_mem ha c t0 d
    simp only [startsTo]
    split
    · rename_i h
      rw [List.mem_append, ih]
      simp only [List.mem_singleton]
      constructor
      · rintro (⟨h1, h2, h3⟩ | rfl)
        · exact ⟨h1, by omega, h3⟩
        · exact ⟨by omega, by omega, h⟩
      · rintro ⟨h1, h2, h3⟩
        by_cases e : y = t0 + d
        · exact .inr e
        · exact .inl ⟨h1, by omega, h3⟩
    · rename_i h
      rw [ih]
      constructor
      · rintro ⟨h1, h2, h3⟩; exact ⟨h1, by omega, h3⟩
      · rintro ⟨h1, h2, h3⟩
        refine ⟨h1, ?_, h3⟩
        by_cases e : y = t0 + d
        · subst e; exact absurd h3 h
        · omega
theorem starts0_ge (c : Camp) (now : Int) : c.ea + c.pr ≤ starts0 c now ∧ now + c.pr ≤ starts0 c now := by
  unfold starts0; split <;> omega
theorem startsS_bd {ha : Hal} {l : List Camp} (hv : VH ha l) {c : Camp} (hc : CB ha.st.length c) (now : Int) : (startsS ha c now).length ≤ 1000 ∧ ∀ y ∈ startsS ha c now, 0 ≤ y ∧ y ≤ 96 := by
  have h1 := starts0_ge c now
  have h2 := hc.ea0; have h3 := hc.pr0; have h4 := hc.la1; have h5 := hc.ho0; have h6 := hv.n2
  refine ⟨?_, fun y hy => ?_⟩
  · have := startsTo_len ha c (starts0 c now) (c.la - c.ho - starts0 c now + 1).toNat
    unfold startsS; omega
  · unfold startsS at hy
    rw [startsTo_mem] at hy
    omega
theorem leftS_bd {ha : Hal} {l : List Camp} (hv : VH ha l) (now : Int) : Bd (leftS ha l now) := by
  intro j hj
  rw [leftS_len] at hj
  rw [lth_leftS _ _ _ _ hj]
  have := startsS_bd hv (hv.cb j hj) now
  exact ⟨this.1, fun q hq => this.2 _ (nth_mem hq)⟩
end Go.Proofs.Ytjpgignbjkgjiaa
end
section
/-
  Plain words of chapter 10 (hall), the sixth part: what customers see. No program in sight.
-/
namespace Go.Proofs.Ytjpgignbjkgjiaa
def markF (a b v : Int) (F : Nat → Int) : Nat → Int := fun i => if a ≤ (i : Int) ∧ (i : Int) < b then v else F i
def vBase (ha : Hal) : Nat → Int := fun i => if nth ha.st i = 0 then 3 else 0
def vOther (ha : Hal) (l : List Camp) (p : List Int) (cu : Int) : Nat → Nat → Int
  | 0 => vBase ha
  | k + 1 => if (cth l k).cu = cu then vOther ha l p cu k else markF (nth p k - ha.cl) (nth p k + (cth l k).ho + ha.cl) 3 (vOther ha l p cu k)
def vOwn (l : List Camp) (p : List Int) (cu own : Int) (F : Nat → Int) : Nat → Nat → Int
  | 0 => F
  | k + 1 => if (cth l k).cu = cu then (if own = 1 then markF (nth p k) (nth p k + (cth l k).ho) own (vOwn l p cu own F k) else markF (nth p k - (cth l k).pr) (nth p k) own (vOwn l p cu own F k)) else vOwn l p cu own F k
def viewF (ha : Hal) (l : List Camp) (p : List Int) (cu : Int) : Nat → Int := vOwn l p cu 1 (vOwn l p cu 2 (vOther ha l p cu l.length) l.length) l.length
def viewE (ha : Hal) (l : List Camp) (p : List Int) (cu : Int) : Int := if errS ha l p = 0 then (if wi cu 0 20 then 0 else 3) else errS ha l p
def viewL (ha : Hal) (l : List Camp) (p : List Int) (cu : Int) : List Int := if viewE ha l p cu = 0 then fl ha.st.length (viewF ha l p cu) else []
def ownOf (q : Nat) : Int := if q = 0 then 2 else 1
def vStage (ha : Hal) (l : List Camp) (p : List Int) (cu : Int) : Nat → Nat → Int
  | 0 => vOther ha l p cu l.length
  | q + 1 => vOwn l p cu (ownOf q) (vStage ha l p cu q) l.length
theorem vStage_two (ha : Hal) (l : List Camp) (p : List Int) (cu : Int) : vStage ha l p cu 2 = viewF ha l p cu := rfl
end Go.Proofs.Ytjpgignbjkgjiaa
end
