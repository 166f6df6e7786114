/-
  Plain words of chapter 10 (hall): no program in sight.
-/
namespace Go.Proofs.Ytjpgignbjkgjiaa
/-- The i-th number (a name of its own, so that the walk does not spell it anew). -/
def nth (xs : List Int) (i : Nat) : Int := xs.getD i 0
theorem nth_eq (xs : List Int) (i : Nat) (h : i < xs.length) : nth xs i = xs[i] := by simp [nth, h]

/-- A campaign. -/
structure Camp where
  cu : Int
  pr : Int
  ho : Int
  en : Int
  ea : Int
  la : Int
  we : Int
def Camp.zero : Camp := ⟨0, 0, 0, 0, 0, 0, 0⟩
def cth (cs : List Camp) (i : Nat) : Camp := cs.getD i Camp.zero
theorem cth_eq (cs : List Camp) (i : Nat) (h : i < cs.length) : cth cs i = cs[i] := by simp [cth, h]
/-- A hall. -/
structure Hal where
  ro : Int
  cl : Int
  st : List Int
  en : List Int

def wi (n a b : Int) : Bool := decide (a ≤ n) && decide (n ≤ b)
theorem wi_iff {n a b : Int} : wi n a b = true ↔ a ≤ n ∧ n ≤ b := by simp [wi]
theorem wi_not {n a b : Int} : wi n a b = false ↔ n < a ∨ b < n := by simp [wi]; omega
theorem le_lt (a b : Int) : decide (a ≤ b) = !decide (b < a) := by
  rw [Bool.eq_iff_iff]; simp
def halB (h : Hal) : Bool := wi h.st.length 1 96 && h.en.length == h.st.length && h.st.all (wi · 0 1000) && h.en.all (wi · 0 1000) && wi h.ro 1 4 && wi h.cl 0 6
def campB (n : Int) (c : Camp) : Bool :=
  wi c.cu 0 20 && wi c.pr 0 24 && wi c.ho 1 24 && wi c.en 0 1000 && decide (0 ≤ c.ea) && decide (c.ea ≤ c.la) && decide (c.la ≤ n) && wi c.we 0 100
def campsB (h : Hal) (l : List Camp) : Bool := halB h && decide (l.length ≤ 16) && l.all (campB h.st.length)

/-- 0 where it is so, else the error's number. -/
def errIf (b : Bool) (e : Int) : Int := if b then 0 else e
theorem errIf_true {b : Bool} {e : Int} (h : b = true) : errIf b e = 0 := by simp [errIf, h]
theorem errIf_false {b : Bool} {e : Int} (h : b = false) : errIf b e = e := by simp [errIf, h]
/-- The error of a hall, campaigns and a plan of so many numbers. -/
def checkE (ha : Hal) (l : List Camp) (pn : Nat) : Int := if campsB ha l then (if pn = l.length then 0 else 5) else 2
def idxOr (o : Option Nat) : Int := match o with | some i => i | none => -1
section
variable {α : Type} (get : List α → Nat → α) (hg : ∀ (l : List α) (i : Nat) (h : i < l.length), get l i = l[i])
include hg
theorem findIdx_some (p : α → Bool) (xs : List α) (k : Nat) (hk : k < xs.length) (h : p (get xs k) = true) (hf : ∀ j, j < k → p (get xs j) = false) : xs.findIdx? p = some k := by
  rw [List.findIdx?_eq_some_iff_getElem]
  refine ⟨hk, by rw [← hg xs k hk]; exact h, fun j hj => ?_⟩
  rw [← hg xs j (by omega)]; simp [hf j hj]
theorem findIdx_none (p : α → Bool) (xs : List α) (hf : ∀ j, j < xs.length → p (get xs j) = false) : xs.findIdx? p = none := by
  rw [List.findIdx?_eq_none_iff]
  intro x hx
  obtain ⟨j, hj, rfl⟩ := List.getElem_of_mem hx
  rw [← hg xs j hj]; exact hf j hj
end
theorem any_idx {α : Type} (p : α → Bool) (xs : List α) : xs.any p = decide (idxOr (xs.findIdx? p) ≥ 0) := by
  cases h : xs.findIdx? p with
  | none => simp only [List.findIdx?_eq_none_iff] at h; simp [idxOr]; exact fun x hx => by simpa using h x hx
  | some i =>
    rw [List.findIdx?_eq_some_iff_getElem] at h
    obtain ⟨hi, hp, _⟩ := h
    have h0 : (0 : Int) ≤ (i : Int) := by omega
    simp [idxOr, h0]
    exact ⟨_, List.getElem_mem hi, hp⟩
/-- The bounds of a valid campaign. -/
structure CB (n : Int) (c : Camp) : Prop where
  cu0 : 0 ≤ c.cu
  cu1 : c.cu ≤ 20
  pr0 : 0 ≤ c.pr
  pr1 : c.pr ≤ 24
  ho0 : 1 ≤ c.ho
  ho1 : c.ho ≤ 24
  en0 : 0 ≤ c.en
  en1 : c.en ≤ 1000
  ea0 : 0 ≤ c.ea
  ea1 : c.ea ≤ c.la
  la1 : c.la ≤ n
  we0 : 0 ≤ c.we
  we1 : c.we ≤ 100
theorem campB_cb {n : Int} {c : Camp} (h : campB n c = true) : CB n c := by
  simp only [campB, Bool.and_eq_true, decide_eq_true_eq, wi_iff] at h
  obtain ⟨⟨⟨⟨⟨⟨⟨a, b⟩, d⟩, e⟩, f⟩, g⟩, i⟩, j⟩ := h
  exact ⟨a.1, a.2, b.1, b.2, d.1, d.2, e.1, e.2, f, g, i, j.1, j.2⟩
/-- A valid hall with its campaigns. -/
structure VH (ha : Hal) (l : List Camp) : Prop where
  n1 : 1 ≤ ha.st.length
  n2 : ha.st.length ≤ 96
  en : ha.en.length = ha.st.length
  st : ∀ i, i < ha.st.length → 0 ≤ nth ha.st i ∧ nth ha.st i ≤ 1000
  ee : ∀ i, i < ha.st.length → 0 ≤ nth ha.en i ∧ nth ha.en i ≤ 1000
  r0 : 1 ≤ ha.ro
  r1 : ha.ro ≤ 4
  c0 : 0 ≤ ha.cl
  c1 : ha.cl ≤ 6
  ll : l.length ≤ 16
  cb : ∀ i, i < l.length → CB ha.st.length (cth l i)
theorem campsB_vh {ha : Hal} {l : List Camp} (h : campsB ha l = true) : VH ha l := by
  simp only [campsB, halB, Bool.and_eq_true, decide_eq_true_eq, wi_iff, List.all_eq_true, beq_iff_eq] at h
  obtain ⟨⟨⟨⟨⟨⟨⟨a, b⟩, c⟩, d⟩, e⟩, f⟩, g⟩, i⟩ := h
  refine ⟨by omega, by omega, b, fun k hk => ?_, fun k hk => ?_, e.1, e.2, f.1, f.2, g, fun k hk => ?_⟩
  · rw [nth_eq _ _ hk]; exact c _ (List.getElem_mem hk)
  · have hk' : k < ha.en.length := by omega
    rw [nth_eq _ _ hk']; exact d _ (List.getElem_mem hk')
  · rw [cth_eq _ _ hk]; exact campB_cb (i _ (List.getElem_mem hk))
/-- The first of n numbers for which it is so. -/
def fIdx (q : Nat → Bool) (n : Nat) : Option Nat := (List.range n).find? q
theorem fIdx_some {q : Nat → Bool} {n k : Nat} (hk : k < n) (h : q k = true) (hf : ∀ j, j < k → q j = false) : fIdx q n = some k := by
  unfold fIdx
  rw [List.find?_range_eq_some]
  exact ⟨h, by simpa using hk, fun j hj => by simp [hf j hj]⟩
theorem fIdx_none {q : Nat → Bool} {n : Nat} (hf : ∀ j, j < n → q j = false) : fIdx q n = none := by
  unfold fIdx
  rw [List.find?_range_eq_none]
  exact fun j hj => by simp [hf j (by simpa using hj)]
theorem all_lt_succ {q : Nat → Bool} {k : Nat} {b : Bool} (hf : ∀ j, j < k → q j = b) (h : q k = b) : ∀ j, j < k + 1 → q j = b := fun j hj => by
  rcases Nat.lt_succ_iff_lt_or_eq.1 hj with h1 | h1
  · exact hf j h1
  · rw [h1]; exact h
def inTimeB (c : Camp) (t : Int) : Bool := decide (c.ea + c.pr ≤ t) && decide (t ≤ c.la - c.ho)
/-- The first hour of m from t on for which it is so, or -1. -/
def hourS (q : Int → Bool) (t : Int) (m : Nat) : Int := match fIdx (fun d => q (t + d)) m with | some d => t + d | none => -1
/-- A breach. -/
structure Br where
  ru : Int
  a : Int
  b : Int
  ho : Int
def Br.zero : Br := ⟨0, 0, 0, 0⟩
def nthZ (xs : List Int) (k : Int) : Int := nth xs k.toNat
def hStaff (ha : Hal) (c : Camp) (t : Int) : Int := hourS (fun k => nthZ ha.st k == 0) t c.ho.toNat
def hEnergy (ha : Hal) (c : Camp) (t : Int) : Int := hourS (fun k => decide (nthZ ha.en k < c.en)) t c.ho.toNat
def sgl3 (ha : Hal) (l : List Camp) (p : List Int) : Br :=
  match fIdx (fun i => decide (0 ≤ hEnergy ha (cth l i) (nth p i))) l.length with
  | some i => ⟨3, i, 0, hEnergy ha (cth l i) (nth p i)⟩
  | none => Br.zero
def sgl2 (ha : Hal) (l : List Camp) (p : List Int) : Br :=
  match fIdx (fun i => decide (0 ≤ hStaff ha (cth l i) (nth p i))) l.length with
  | some i => ⟨2, i, 0, hStaff ha (cth l i) (nth p i)⟩
  | none => sgl3 ha l p
/-- The breach of the rules 1 to 3. -/
def singleS (ha : Hal) (l : List Camp) (p : List Int) : Br :=
  match fIdx (fun i => !inTimeB (cth l i) (nth p i)) l.length with
  | some i => ⟨1, i, 0, 0⟩
  | none => sgl2 ha l p
def gapS (ha : Hal) (a b : Camp) : Int := if a.cu = b.cu then 0 else ha.cl
/-- Whether the runs of two campaigns keep rule 4. -/
def apartB (ha : Hal) (a b : Camp) (s t : Int) : Bool := decide (s + a.ho + gapS ha a b ≤ t) || decide (t + b.ho + gapS ha a b ≤ s)
def prepB (c : Camp) (t hour : Int) : Bool := decide (hour < t) && decide (t - hour ≤ c.pr)
/-- How many of the first k campaigns prepare in an hour. -/
def cntTo (l : List Camp) (p : List Int) : Nat → Int → Int
  | 0, _ => 0
  | k + 1, hour => cntTo l p k hour + if prepB (cth l k) (nth p k) hour then 1 else 0
theorem cntTo_bd (l : List Camp) (p : List Int) : ∀ k hour, 0 ≤ cntTo l p k hour ∧ cntTo l p k hour ≤ k
  | 0, _ => by simp [cntTo]
  | k + 1, hour => by
    have := cntTo_bd l p k hour
    simp only [cntTo]
    split <;> omega
/-- The list of a function's values. -/
def fl (n : Nat) (f : Nat → Int) : List Int := (List.range n).map f
theorem fl_len (n : Nat) (f : Nat → Int) : (fl n f).length = n := by simp [fl]
theorem nth_fl (n : Nat) (f : Nat → Int) (i : Nat) (h : i < n) : nth (fl n f) i = f i := by simp [fl, nth, h]
theorem fl_congr (n : Nat) (f g : Nat → Int) (h : ∀ i, i < n → f i = g i) : fl n f = fl n g := by
  unfold fl; exact List.map_congr_left fun i hi => h i (by simpa using hi)
/-- What breaks the rules. -/
def brRooms (ha : Hal) (l : List Camp) (p : List Int) : Br :=
  match fIdx (fun hour => decide (ha.ro < cntTo l p l.length hour)) ha.st.length with
  | some i => ⟨5, 0, 0, i⟩
  | none => Br.zero
/-- The first k behind i that is too near, or none. -/
def nearOf (ha : Hal) (l : List Camp) (p : List Int) (i : Nat) : Option Nat := fIdx (fun k => decide (i < k) && !apartB ha (cth l i) (cth l k) (nth p i) (nth p k)) l.length
def brTunnel (ha : Hal) (l : List Camp) (p : List Int) : Br :=
  match fIdx (fun i => (nearOf ha l p i).isSome) l.length with
  | some i => ⟨4, i, ((nearOf ha l p i).getD 0 : Nat), 0⟩
  | none => brRooms ha l p
def breachS (ha : Hal) (l : List Camp) (p : List Int) : Br := if (singleS ha l p).ru = 0 then brTunnel ha l p else singleS ha l p
end Go.Proofs.Ytjpgignbjkgjiaa
