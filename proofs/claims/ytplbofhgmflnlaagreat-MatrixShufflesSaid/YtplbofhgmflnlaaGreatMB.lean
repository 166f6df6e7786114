/-
  Rows of this seat's structs; IndexFunc and ContainsFunc at them (printed by genmb.py).
-/
import Derived.Test.YtplbofhgmflnlaaGreatMA
set_option linter.unusedVariables false
set_option linter.unusedSimpArgs false
namespace Go.Proofs.YtplbofhgmflnlaaGreat
open Go.RowKit
/-! ### plain -/
structure Fac where
  lev : Int
  cost : Int
  hard : Bool
structure Pr where
  fac : Int
  lev : Int
structure Wd where
  mask : Nat
  odd : Bool
deriving DecidableEq
/-- A slice and what lies under it. -/
structure Sl (α : Type) where
  a : Option Addr
  xs : List α
  c : Nat
/-- A setting, with the place of its levels. -/
structure Se where
  lv : Sl Int
  blk : Int
def fth (xs : List Fac) (i : Nat) : Fac := xs.getD i ⟨0, 0, false⟩
def pth (xs : List Pr) (i : Nat) : Pr := xs.getD i ⟨0, 0⟩
def wth (xs : List Wd) (i : Nat) : Wd := xs.getD i ⟨0, false⟩
def gth (xs : List (Sl Pr)) (i : Nat) : Sl Pr := xs.getD i ⟨none, [], 0⟩
def eth (xs : List Se) (i : Nat) : Se := xs.getD i ⟨⟨none, [], 0⟩, 0⟩
def vth (xs : List (Sl Int)) (i : Nat) : Sl Int := xs.getD i ⟨none, [], 0⟩
theorem fth_eq (xs : List Fac) (i : Nat) (h : i < xs.length) : fth xs i = xs[i] := by simp [fth, h]
theorem pth_eq (xs : List Pr) (i : Nat) (h : i < xs.length) : pth xs i = xs[i] := by simp [pth, h]
theorem wth_eq (xs : List Wd) (i : Nat) (h : i < xs.length) : wth xs i = xs[i] := by simp [wth, h]
theorem gth_eq (xs : List (Sl Pr)) (i : Nat) (h : i < xs.length) : gth xs i = xs[i] := by simp [gth, h]
theorem eth_eq (xs : List Se) (i : Nat) (h : i < xs.length) : eth xs i = xs[i] := by simp [eth, h]
theorem vth_eq (xs : List (Sl Int)) (i : Nat) (h : i < xs.length) : vth xs i = xs[i] := by simp [vth, h]
/-- The first number below n at which q holds. -/
def fIdx (q : Nat → Bool) (n : Nat) : Option Nat := (List.range n).find? q
theorem fIdx_some {q : Nat → Bool} {n k : Nat} (hk : k < n) (h : q k = true) (hf : ∀ j, j < k → q j = false) : fIdx q n = some k := by
  unfold fIdx
  rw [List.find?_range_eq_some]
  exact ⟨h, by simpa using hk, fun j hj => by simp [hf j hj]⟩
theorem fIdx_none {q : Nat → Bool} {n : Nat} (hf : ∀ j, j < n → q j = false) : fIdx q n = none := by
  unfold fIdx
  rw [List.find?_range_eq_none]
  exact fun j hj => by simp [hf j (by simpa using hj)]
theorem all_lt_succ {q : Nat → Bool} {k : Nat} {b : Bool} (hf : ∀ j, j < k → q j = b) (h : q k = b) : ∀ j, j < k + 1 → q j = b := fun j hj => by
  rcases Nat.lt_succ_iff_lt_or_eq.1 hj with h1 | h1
  · exact hf j h1
  · rw [h1]; exact h
def idxOr : Option Nat → Int
  | some i => (i : Int)
  | none => -1
section
variable {α : Type}
theorem findIdx_some (th : List α → Nat → α) (the : ∀ xs i (h : i < xs.length), th xs i = xs[i]) (p : α → Bool) (xs : List α) (k : Nat) (hk : k < xs.length) (h : p (th xs k) = true) (hf : ∀ j, j < k → p (th xs j) = false) : xs.findIdx? p = some k := by
  rw [List.findIdx?_eq_some_iff_getElem]
  refine ⟨hk, by rw [← the xs k hk]; exact h, fun j hj => ?_⟩
  have := hf j hj
  rw [the xs j (by omega)] at this
  simp [this]
theorem findIdx_none (th : List α → Nat → α) (the : ∀ xs i (h : i < xs.length), th xs i = xs[i]) (p : α → Bool) (xs : List α) (hf : ∀ j, j < xs.length → p (th xs j) = false) : xs.findIdx? p = none := by
  rw [List.findIdx?_eq_none_iff]
  intro x hx
  obtain ⟨i, hi, rfl⟩ := List.getElem_of_mem hx
  rw [← the xs i hi]; exact hf i hi
theorem any_idx (p : α → Bool) (xs : List α) : xs.any p = decide (0 ≤ idxOr (xs.findIdx? p)) := by
  cases h : xs.findIdx? p with
  | none =>
    rw [List.findIdx?_eq_none_iff] at h
    have : xs.any p = false := by rw [List.any_eq_false]; intro x hx; simp [h x hx]
    rw [this]; rfl
  | some i =>
    rw [List.findIdx?_eq_some_iff_getElem] at h
    obtain ⟨hi, hp, -⟩ := h
    have : xs.any p = true := List.any_eq_true.2 ⟨_, List.getElem_mem hi, hp⟩
    rw [this]
    simp [idxOr]
end
/-! ### in memory -/
section
variable {α : Type}
/-- Under this head (nil too) lie these structs. -/
def RowAt (sz : Nat) (f : α → List Value) (w : World) (a : Option Addr) (xs : List α) : Prop :=
  xs = [] ∨ ∃ b o, a = some ⟨b, o, none⟩ ∧ ∀ i (h : i < xs.length) j, j < sz → w.cell? ⟨b, o + i * sz + j, none⟩ = (f xs[i])[j]?
theorem RowAt.ext {sz : Nat} {f : α → List Value} (hf : ∀ x, (f x).length = sz) {w w' : World} {a : Option Addr} {xs : List α} (h : RowAt sz f w a xs) (e : Ext w w') : RowAt sz f w' a xs := by
  rcases h with h | ⟨b, o, h1, h2⟩
  · exact .inl h
  · refine .inr ⟨b, o, h1, fun i hi j hj => ?_⟩
    have := h2 i hi j hj
    rw [List.getElem?_eq_getElem (by rw [hf]; exact hj)] at this ⊢
    exact e.cell this
theorem RowAt.at {sz : Nat} {f : α → List Value} (hf : ∀ x, (f x).length = sz) {w : World} {a : Option Addr} {xs : List α} (h : RowAt sz f w a xs) (i : Nat) (hi : i < xs.length) :
    ∃ b o, a = some ⟨b, o, none⟩ ∧ ∀ j, j < sz → ∀ W, Ext w W → W.cell? ⟨b, o + i * sz + j, none⟩ = (f xs[i])[j]? := by
  rcases h with rfl | ⟨b, o, h1, h2⟩
  · simp at hi
  · refine ⟨b, o, h1, fun j hj W e => ?_⟩
    have := h2 i hi j hj
    rw [List.getElem?_eq_getElem (by rw [hf]; exact hj)] at this ⊢
    exact e.cell this
theorem RowAt.own {e sz : Nat} {f : α → List Value} (hf : ∀ x, (f x).length = sz) {w : World} {B : Nat} {a : Option Addr} {n c : Nat} {xs : List α} (h : OwnF e sz f w B (.slice a n c) xs) : RowAt sz f w a xs := by
  cases xs with
  | nil => exact .inl rfl
  | cons x0 xs0 =>
    obtain ⟨g, ha, -, -, -⟩ := OwnF.cell hf h 0 (by simp)
    refine .inr ⟨g, 0, ha, fun i hi j hj => ?_⟩
    obtain ⟨g', ha', -, -, hc⟩ := OwnF.cell hf h i hi
    rw [ha] at ha'
    simp only [Option.some.injEq, Addr.mk.injEq, and_true] at ha'
    subst ha'
    rw [Nat.zero_add]
    exact hc j hj
theorem RowAt.src {sz : Nat} {f : α → List Value} (hf : ∀ x, (f x).length = sz) {w : World} {a : Option Addr} {xs : List α} (h : RowAt sz f w a xs) : Src w a (rowF f xs) := by
  rcases h with rfl | ⟨b, o, h1, h2⟩
  · exact .inl rfl
  · refine .inr ⟨_, h1, fun q u hq => ?_⟩
    have hlt : q < xs.length * sz := by
      rcases Nat.lt_or_ge q (xs.length * sz) with h | h
      · exact h
      · rw [List.getElem?_eq_none (by rw [rowF_len hf]; exact h)] at hq; cases hq
    have hs : 0 < sz := by
      rcases Nat.eq_zero_or_pos sz with h | h
      · rw [h] at hlt; simp at hlt
      · exact h
    have hi : q / sz < xs.length := (Nat.div_lt_iff_lt_mul hs).2 hlt
    have hj : q % sz < sz := Nat.mod_lt _ hs
    have e : q / sz * sz + q % sz = q := Nat.div_add_mod' q sz
    have hr := rowF_at hf xs (q / sz) (q % sz) hi hj
    rw [e] at hr
    rw [hr] at hq
    have := h2 (q / sz) hi (q % sz) hj
    rw [Nat.add_assoc, e, hq] at this
    rw [Addr.add_lit]
    exact this
/-- 'append(v, x...)', v the call's own. -/
theorem app_row {e sz t : Nat} {f : α → List Value} (hf : ∀ x, (f x).length = sz) (h1 : ∀ x, ∀ u ∈ f x, u.oneCell' = true) {i : TypeInfo} {z : Value} {bytes : Nat} (ht : Tryz.prog.underlying t = some (.slice e)) (hi : Tryz.prog.info? e = some i) (hz : i.zero = some z) (hsize : i.size = sz) (hby : i.bytes = bytes) (hzs : z.cells.size = sz) (hsz : 0 < sz) (hb : bytes ≤ 140737488)
    (w : World) (B : Nat) (ty : TypeId) (v : Value) (xs ys : List α) (a : Option Addr) (c : Nat) (hv : OwnF e sz f w B v xs) (hx : RowAt sz f w a ys) (hn : xs.length + ys.length ≤ 1000000) (hB : B ≤ w.heap.size) :
    ∃ v' w', (Builtin.append_ #[t, t] ty #[v, .slice a ys.length c]).run Tryz.prog w = .ok v' w' ∧ OwnF e sz f w' B v' (xs ++ ys) ∧ w.grownBy w' v.ownBlock := by
  obtain ⟨v', w', q1, q2, q3⟩ := run_app w B t ty e i z sz bytes ht hi hz hsize hby hzs hsz v xs.length (rowF f xs) hv a ys.length c (rowF f ys) (rowF_len hf ys) (hx.src hf) (rowF_one h1 ys) (by unfold maxLen; omega) (by
    have : (xs.length + ys.length) * bytes ≤ 1000000 * 140737488 := Nat.mul_le_mul hn hb
    omega) hB
  refine ⟨v', w', q1, ?_, q3⟩
  unfold OwnF
  rw [List.length_append, rowF_append]
  exact q2
theorem ownF_slice {e sz : Nat} {f : α → List Value} {w : World} {B : Nat} {v : Value} {xs : List α} (h : OwnF e sz f w B v xs) : ∃ a c, v = .slice a xs.length c := by
  rcases h.2 with ⟨h, hn⟩ | ⟨g, cap, cur, hv, -⟩
  · exact ⟨none, 0, by rw [h, hn]⟩
  · exact ⟨_, _, hv⟩
theorem RowAt.upd {sz : Nat} {f : α → List Value} (hf : ∀ x, (f x).length = sz) {w w' : World} {F : List Nat} {a : Option Addr} {xs : List α} (h : RowAt sz f w a xs) (u : Upd F w w') (hF : ∀ ad, a = some ad → ad.block ∉ F) : RowAt sz f w' a xs := by
  rcases h with h | ⟨b, o, h1, h2⟩
  · exact .inl h
  · refine .inr ⟨b, o, h1, fun i hi j hj => ?_⟩
    have hc := h2 i hi j hj
    rw [List.getElem?_eq_getElem (by rw [hf]; exact hj)] at hc ⊢
    have hb := u.block b (lt_of_cell hc) (hF _ h1)
    have : w'.cell? ⟨b, o + i * sz + j, none⟩ = w.cell? ⟨b, o + i * sz + j, none⟩ := by unfold World.cell?; rw [hb]
    rw [this]; exact hc
end
def facC (x : Fac) : List Value := [.int .i64 x.lev, .int .i64 x.cost, .bool x.hard]
theorem facC_len (x : Fac) : (facC x).length = 3 := rfl
theorem facC_one (x : Fac) : ∀ u ∈ facC x, u.oneCell' = true := by
  intro u hu
  simp only [facC, List.mem_cons, List.mem_nil_iff, or_false] at hu
  rcases hu with rfl | rfl | rfl <;> rfl
abbrev facV (x : Fac) : Value := .agg #[.int .i64 x.lev, .int .i64 x.cost, .bool x.hard]
abbrev Facs (w : World) (a : Option Addr) (xs : List (Fac)) : Prop := RowAt 3 facC w a xs
theorem fac_at {w : World} {a : Option Addr} {xs : List (Fac)} (h : Facs w a xs) (i : Nat) (hi : i < xs.length) : ∃ b o, a = some ⟨b, o, none⟩ ∧
    (∀ W, Ext w W → W.cell? ⟨b, o + i * 3, none⟩ = some (.int .i64 (fth xs i).lev)) ∧
    (∀ W, Ext w W → W.cell? ⟨b, o + i * 3 + 1, none⟩ = some (.int .i64 (fth xs i).cost)) ∧
    (∀ W, Ext w W → W.cell? ⟨b, o + i * 3 + 2, none⟩ = some (.bool (fth xs i).hard)) := by
  obtain ⟨b, o, h1, h2⟩ := RowAt.at facC_len h i hi
  rw [← fth_eq xs i hi] at h2
  refine ⟨b, o, h1, fun W e => by have := h2 0 (by omega) W e; simpa [facC] using this, fun W e => by have := h2 1 (by omega) W e; simpa [facC] using this, fun W e => by have := h2 2 (by omega) W e; simpa [facC] using this⟩
def prC (x : Pr) : List Value := [.int .i64 x.fac, .int .i64 x.lev]
theorem prC_len (x : Pr) : (prC x).length = 2 := rfl
theorem prC_one (x : Pr) : ∀ u ∈ prC x, u.oneCell' = true := by
  intro u hu
  simp only [prC, List.mem_cons, List.mem_nil_iff, or_false] at hu
  rcases hu with rfl | rfl <;> rfl
abbrev prV (x : Pr) : Value := .agg #[.int .i64 x.fac, .int .i64 x.lev]
abbrev Prs (w : World) (a : Option Addr) (xs : List (Pr)) : Prop := RowAt 2 prC w a xs
theorem pr_at {w : World} {a : Option Addr} {xs : List (Pr)} (h : Prs w a xs) (i : Nat) (hi : i < xs.length) : ∃ b o, a = some ⟨b, o, none⟩ ∧
    (∀ W, Ext w W → W.cell? ⟨b, o + i * 2, none⟩ = some (.int .i64 (pth xs i).fac)) ∧
    (∀ W, Ext w W → W.cell? ⟨b, o + i * 2 + 1, none⟩ = some (.int .i64 (pth xs i).lev)) := by
  obtain ⟨b, o, h1, h2⟩ := RowAt.at prC_len h i hi
  rw [← pth_eq xs i hi] at h2
  refine ⟨b, o, h1, fun W e => by have := h2 0 (by omega) W e; simpa [prC] using this, fun W e => by have := h2 1 (by omega) W e; simpa [prC] using this⟩
def wdC (x : Wd) : List Value := [.int .u16 (x.mask : Int), .bool x.odd]
theorem wdC_len (x : Wd) : (wdC x).length = 2 := rfl
theorem wdC_one (x : Wd) : ∀ u ∈ wdC x, u.oneCell' = true := by
  intro u hu
  simp only [wdC, List.mem_cons, List.mem_nil_iff, or_false] at hu
  rcases hu with rfl | rfl <;> rfl
abbrev wdV (x : Wd) : Value := .agg #[.int .u16 (x.mask : Int), .bool x.odd]
abbrev Wds (w : World) (a : Option Addr) (xs : List (Wd)) : Prop := RowAt 2 wdC w a xs
theorem wd_at {w : World} {a : Option Addr} {xs : List (Wd)} (h : Wds w a xs) (i : Nat) (hi : i < xs.length) : ∃ b o, a = some ⟨b, o, none⟩ ∧
    (∀ W, Ext w W → W.cell? ⟨b, o + i * 2, none⟩ = some (.int .u16 ((wth xs i).mask : Int))) ∧
    (∀ W, Ext w W → W.cell? ⟨b, o + i * 2 + 1, none⟩ = some (.bool (wth xs i).odd)) := by
  obtain ⟨b, o, h1, h2⟩ := RowAt.at wdC_len h i hi
  rw [← wth_eq xs i hi] at h2
  refine ⟨b, o, h1, fun W e => by have := h2 0 (by omega) W e; simpa [wdC] using this, fun W e => by have := h2 1 (by omega) W e; simpa [wdC] using this⟩
def grpC (x : Sl Pr) : List Value := [.slice x.a x.xs.length x.c]
theorem grpC_len (x : Sl Pr) : (grpC x).length = 1 := rfl
theorem grpC_one (x : Sl Pr) : ∀ u ∈ grpC x, u.oneCell' = true := by
  intro u hu
  simp only [grpC, List.mem_cons, List.mem_nil_iff, or_false] at hu
  subst hu; rfl
abbrev grpV (x : Sl Pr) : Value := .slice x.a x.xs.length x.c
abbrev Grps (w : World) (a : Option Addr) (xs : List (Sl Pr)) : Prop := RowAt 1 grpC w a xs
theorem grp_at {w : World} {a : Option Addr} {xs : List (Sl Pr)} (h : Grps w a xs) (i : Nat) (hi : i < xs.length) : ∃ b o, a = some ⟨b, o, none⟩ ∧
    (∀ W, Ext w W → W.cell? ⟨b, o + i, none⟩ = some (.slice (gth xs i).a (gth xs i).xs.length (gth xs i).c)) := by
  obtain ⟨b, o, h1, h2⟩ := RowAt.at grpC_len h i hi
  rw [← gth_eq xs i hi] at h2
  refine ⟨b, o, h1, fun W e => by have := h2 0 (by omega) W e; rw [Nat.mul_one] at this; simpa [grpC] using this⟩
def vecC (x : Sl Int) : List Value := [.slice x.a x.xs.length x.c]
theorem vecC_len (x : Sl Int) : (vecC x).length = 1 := rfl
theorem vecC_one (x : Sl Int) : ∀ u ∈ vecC x, u.oneCell' = true := by
  intro u hu
  simp only [vecC, List.mem_cons, List.mem_nil_iff, or_false] at hu
  subst hu; rfl
abbrev vecV (x : Sl Int) : Value := .slice x.a x.xs.length x.c
abbrev Vecs (w : World) (a : Option Addr) (xs : List (Sl Int)) : Prop := RowAt 1 vecC w a xs
theorem vec_at {w : World} {a : Option Addr} {xs : List (Sl Int)} (h : Vecs w a xs) (i : Nat) (hi : i < xs.length) : ∃ b o, a = some ⟨b, o, none⟩ ∧
    (∀ W, Ext w W → W.cell? ⟨b, o + i, none⟩ = some (.slice (vth xs i).a (vth xs i).xs.length (vth xs i).c)) := by
  obtain ⟨b, o, h1, h2⟩ := RowAt.at vecC_len h i hi
  rw [← vth_eq xs i hi] at h2
  refine ⟨b, o, h1, fun W e => by have := h2 0 (by omega) W e; rw [Nat.mul_one] at this; simpa [vecC] using this⟩
def setC (x : Se) : List Value := [.slice x.lv.a x.lv.xs.length x.lv.c, .int .i64 x.blk]
theorem setC_len (x : Se) : (setC x).length = 2 := rfl
theorem setC_one (x : Se) : ∀ u ∈ setC x, u.oneCell' = true := by
  intro u hu
  simp only [setC, List.mem_cons, List.mem_nil_iff, or_false] at hu
  rcases hu with rfl | rfl <;> rfl
abbrev setV (x : Se) : Value := .agg #[.slice x.lv.a x.lv.xs.length x.lv.c, .int .i64 x.blk]
abbrev Sets (w : World) (a : Option Addr) (xs : List (Se)) : Prop := RowAt 2 setC w a xs
theorem set_at {w : World} {a : Option Addr} {xs : List (Se)} (h : Sets w a xs) (i : Nat) (hi : i < xs.length) : ∃ b o, a = some ⟨b, o, none⟩ ∧
    (∀ W, Ext w W → W.cell? ⟨b, o + i * 2, none⟩ = some (.slice (eth xs i).lv.a (eth xs i).lv.xs.length (eth xs i).lv.c)) ∧
    (∀ W, Ext w W → W.cell? ⟨b, o + i * 2 + 1, none⟩ = some (.int .i64 (eth xs i).blk)) := by
  obtain ⟨b, o, h1, h2⟩ := RowAt.at setC_len h i hi
  rw [← eth_eq xs i hi] at h2
  refine ⟨b, o, h1, fun W e => by have := h2 0 (by omega) W e; simpa [setC] using this, fun W e => by have := h2 1 (by omega) W e; simpa [setC] using this⟩
set_option maxHeartbeats 400000 in
theorem indexFunc_fac (f : Nat) (cap : Array Value) (a : Option Addr) (n c : Nat) (xs : List (Fac)) (p : Fac → Bool) (w : World) (hn : xs.length = n) (hm : n ≤ 1000000) (hx : Facs w a xs)
    (hp : ∀ i, i < n → Asks Tryz.prog f cap w (facV (fth xs i)) (p (fth xs i))) :
    Calls Tryz.prog 125 #[.slice a n c, .func (.func f) #[] cap] w (Ret (.int .i64 (idxOr (xs.findIdx? p))) w) := by
  have HN := Lib.hid hn; clear hn
  go_enter Tryz.func125, Tryz.ntmps125
  go_wp2_with (fail)
  go_loopw [5, 8] (fun _ i wr => ∃ k : Nat, k ≤ n ∧ i = .int .i64 k ∧ Ext w wr ∧ Hid (∀ j, j < k → p (fth xs j) = false)) (fun _ i _ => n - (intOf i).toNat)
  case atStart => exact ⟨0, Nat.zero_le _, rfl, Ext.refl _, fun j hj => by omega⟩
  case round =>
    obtain ⟨k, hk, rfl, he, hf⟩ := hrel
    by_cases hlt : k < n
    · obtain ⟨b, o, rfl, c0, c1, c2⟩ := fac_at hx k (by rw [HN.out]; exact hlt)
      obtain ⟨hen, hq⟩ := hp k hlt
      have HQ := Lib.hid (hq wr he)
      have hen' := hen (#[facV (fth xs k)] ++ cap) wr
      clear hq hen hp
      go_wp2_with (fail)
      refine HQ.out.mono ?_
      rintro e w' ⟨rfl, he'⟩
      have he2 := he.trans he'
      cases hpk : p (fth xs k)
      · have hf2 : Hid (∀ j, j < k + 1 → p (fth xs j) = false) := fun j hj => by
          rcases Nat.lt_succ_iff_lt_or_eq.1 hj with h | h
          · exact hf.out j h
          · rw [h]; exact hpk
        clear hpk
        go_wp2_with (fail)
        go_roundw
        case rel => exact ⟨k + 1, by omega, by go_num, he2, hf2⟩
        case measure => simp [intOf]; omega
      · have H2 := Lib.hid (findIdx_some fth fth_eq p xs k (by rw [HN.out]; exact hlt) hpk hf.out)
        clear hpk
        go_wp2_with (fail)
        go_ret
        exact ⟨by rw [H2.out]; rfl, he2⟩
    · have H2 := Lib.hid (findIdx_none fth fth_eq p xs (fun j hj => hf.out j (by rw [HN.out] at hj; omega)))
      go_wp2_with (fail)
      go_ret
      exact ⟨by rw [H2.out]; rfl, he⟩
set_option maxHeartbeats 400000 in
theorem containsFunc_fac (f : Nat) (cap : Array Value) (a : Option Addr) (n c : Nat) (xs : List (Fac)) (p : Fac → Bool) (w : World) (hn : xs.length = n) (hm : n ≤ 1000000) (hx : Facs w a xs)
    (hp : ∀ i, i < n → Asks Tryz.prog f cap w (facV (fth xs i)) (p (fth xs i))) :
    Calls Tryz.prog 92 #[.slice a n c, .func (.func f) #[] cap] w (Ret (.bool (xs.any p)) w) := by
  have H := Lib.hid (indexFunc_fac f cap a n c xs p w hn hm hx hp)
  clear hp
  rw [any_idx]
  go_enter Tryz.func92, Tryz.ntmps92
  go_wp2_with (go_at_call 125; refine H.out.mono ?_; rintro e w' ⟨rfl, he⟩)
  go_ret
  exact ⟨rfl, he⟩
set_option maxHeartbeats 400000 in
theorem indexFunc_pr (f : Nat) (cap : Array Value) (a : Option Addr) (n c : Nat) (xs : List (Pr)) (p : Pr → Bool) (w : World) (hn : xs.length = n) (hm : n ≤ 1000000) (hx : Prs w a xs)
    (hp : ∀ i, i < n → Asks Tryz.prog f cap w (prV (pth xs i)) (p (pth xs i))) :
    Calls Tryz.prog 146 #[.slice a n c, .func (.func f) #[] cap] w (Ret (.int .i64 (idxOr (xs.findIdx? p))) w) := by
  have HN := Lib.hid hn; clear hn
  go_enter Tryz.func146, Tryz.ntmps146
  go_wp2_with (fail)
  go_loopw [5, 8] (fun _ i wr => ∃ k : Nat, k ≤ n ∧ i = .int .i64 k ∧ Ext w wr ∧ Hid (∀ j, j < k → p (pth xs j) = false)) (fun _ i _ => n - (intOf i).toNat)
  case atStart => exact ⟨0, Nat.zero_le _, rfl, Ext.refl _, fun j hj => by omega⟩
  case round =>
    obtain ⟨k, hk, rfl, he, hf⟩ := hrel
    by_cases hlt : k < n
    · obtain ⟨b, o, rfl, c0, c1⟩ := pr_at hx k (by rw [HN.out]; exact hlt)
      obtain ⟨hen, hq⟩ := hp k hlt
      have HQ := Lib.hid (hq wr he)
      have hen' := hen (#[prV (pth xs k)] ++ cap) wr
      clear hq hen hp
      go_wp2_with (fail)
      refine HQ.out.mono ?_
      rintro e w' ⟨rfl, he'⟩
      have he2 := he.trans he'
      cases hpk : p (pth xs k)
      · have hf2 : Hid (∀ j, j < k + 1 → p (pth xs j) = false) := fun j hj => by
          rcases Nat.lt_succ_iff_lt_or_eq.1 hj with h | h
          · exact hf.out j h
          · rw [h]; exact hpk
        clear hpk
        go_wp2_with (fail)
        go_roundw
        case rel => exact ⟨k + 1, by omega, by go_num, he2, hf2⟩
        case measure => simp [intOf]; omega
      · have H2 := Lib.hid (findIdx_some pth pth_eq p xs k (by rw [HN.out]; exact hlt) hpk hf.out)
        clear hpk
        go_wp2_with (fail)
        go_ret
        exact ⟨by rw [H2.out]; rfl, he2⟩
    · have H2 := Lib.hid (findIdx_none pth pth_eq p xs (fun j hj => hf.out j (by rw [HN.out] at hj; omega)))
      go_wp2_with (fail)
      go_ret
      exact ⟨by rw [H2.out]; rfl, he⟩
set_option maxHeartbeats 400000 in
theorem containsFunc_pr (f : Nat) (cap : Array Value) (a : Option Addr) (n c : Nat) (xs : List (Pr)) (p : Pr → Bool) (w : World) (hn : xs.length = n) (hm : n ≤ 1000000) (hx : Prs w a xs)
    (hp : ∀ i, i < n → Asks Tryz.prog f cap w (prV (pth xs i)) (p (pth xs i))) :
    Calls Tryz.prog 117 #[.slice a n c, .func (.func f) #[] cap] w (Ret (.bool (xs.any p)) w) := by
  have H := Lib.hid (indexFunc_pr f cap a n c xs p w hn hm hx hp)
  clear hp
  rw [any_idx]
  go_enter Tryz.func117, Tryz.ntmps117
  go_wp2_with (go_at_call 146; refine H.out.mono ?_; rintro e w' ⟨rfl, he⟩)
  go_ret
  exact ⟨rfl, he⟩
set_option maxHeartbeats 400000 in
theorem indexFunc_wd (f : Nat) (cap : Array Value) (a : Option Addr) (n c : Nat) (xs : List (Wd)) (p : Wd → Bool) (w : World) (hn : xs.length = n) (hm : n ≤ 1000000) (hx : Wds w a xs)
    (hp : ∀ i, i < n → Asks Tryz.prog f cap w (wdV (wth xs i)) (p (wth xs i))) :
    Calls Tryz.prog 119 #[.slice a n c, .func (.func f) #[] cap] w (Ret (.int .i64 (idxOr (xs.findIdx? p))) w) := by
  have HN := Lib.hid hn; clear hn
  go_enter Tryz.func119, Tryz.ntmps119
  go_wp2_with (fail)
  go_loopw [5, 8] (fun _ i wr => ∃ k : Nat, k ≤ n ∧ i = .int .i64 k ∧ Ext w wr ∧ Hid (∀ j, j < k → p (wth xs j) = false)) (fun _ i _ => n - (intOf i).toNat)
  case atStart => exact ⟨0, Nat.zero_le _, rfl, Ext.refl _, fun j hj => by omega⟩
  case round =>
    obtain ⟨k, hk, rfl, he, hf⟩ := hrel
    by_cases hlt : k < n
    · obtain ⟨b, o, rfl, c0, c1⟩ := wd_at hx k (by rw [HN.out]; exact hlt)
      obtain ⟨hen, hq⟩ := hp k hlt
      have HQ := Lib.hid (hq wr he)
      have hen' := hen (#[wdV (wth xs k)] ++ cap) wr
      clear hq hen hp
      go_wp2_with (fail)
      refine HQ.out.mono ?_
      rintro e w' ⟨rfl, he'⟩
      have he2 := he.trans he'
      cases hpk : p (wth xs k)
      · have hf2 : Hid (∀ j, j < k + 1 → p (wth xs j) = false) := fun j hj => by
          rcases Nat.lt_succ_iff_lt_or_eq.1 hj with h | h
          · exact hf.out j h
          · rw [h]; exact hpk
        clear hpk
        go_wp2_with (fail)
        go_roundw
        case rel => exact ⟨k + 1, by omega, by go_num, he2, hf2⟩
        case measure => simp [intOf]; omega
      · have H2 := Lib.hid (findIdx_some wth wth_eq p xs k (by rw [HN.out]; exact hlt) hpk hf.out)
        clear hpk
        go_wp2_with (fail)
        go_ret
        exact ⟨by rw [H2.out]; rfl, he2⟩
    · have H2 := Lib.hid (findIdx_none wth wth_eq p xs (fun j hj => hf.out j (by rw [HN.out] at hj; omega)))
      go_wp2_with (fail)
      go_ret
      exact ⟨by rw [H2.out]; rfl, he⟩
set_option maxHeartbeats 400000 in
theorem containsFunc_wd (f : Nat) (cap : Array Value) (a : Option Addr) (n c : Nat) (xs : List (Wd)) (p : Wd → Bool) (w : World) (hn : xs.length = n) (hm : n ≤ 1000000) (hx : Wds w a xs)
    (hp : ∀ i, i < n → Asks Tryz.prog f cap w (wdV (wth xs i)) (p (wth xs i))) :
    Calls Tryz.prog 84 #[.slice a n c, .func (.func f) #[] cap] w (Ret (.bool (xs.any p)) w) := by
  have H := Lib.hid (indexFunc_wd f cap a n c xs p w hn hm hx hp)
  clear hp
  rw [any_idx]
  go_enter Tryz.func84, Tryz.ntmps84
  go_wp2_with (go_at_call 119; refine H.out.mono ?_; rintro e w' ⟨rfl, he⟩)
  go_ret
  exact ⟨rfl, he⟩
set_option maxHeartbeats 400000 in
theorem indexFunc_grp (f : Nat) (cap : Array Value) (a : Option Addr) (n c : Nat) (xs : List (Sl Pr)) (p : Sl Pr → Bool) (w : World) (hn : xs.length = n) (hm : n ≤ 1000000) (hx : Grps w a xs)
    (hp : ∀ i, i < n → Asks Tryz.prog f cap w (grpV (gth xs i)) (p (gth xs i))) :
    Calls Tryz.prog 145 #[.slice a n c, .func (.func f) #[] cap] w (Ret (.int .i64 (idxOr (xs.findIdx? p))) w) := by
  have HN := Lib.hid hn; clear hn
  go_enter Tryz.func145, Tryz.ntmps145
  go_wp2_with (fail)
  go_loopw [5, 8] (fun _ i wr => ∃ k : Nat, k ≤ n ∧ i = .int .i64 k ∧ Ext w wr ∧ Hid (∀ j, j < k → p (gth xs j) = false)) (fun _ i _ => n - (intOf i).toNat)
  case atStart => exact ⟨0, Nat.zero_le _, rfl, Ext.refl _, fun j hj => by omega⟩
  case round =>
    obtain ⟨k, hk, rfl, he, hf⟩ := hrel
    by_cases hlt : k < n
    · obtain ⟨b, o, rfl, c0⟩ := grp_at hx k (by rw [HN.out]; exact hlt)
      obtain ⟨hen, hq⟩ := hp k hlt
      have HQ := Lib.hid (hq wr he)
      have hen' := hen (#[grpV (gth xs k)] ++ cap) wr
      clear hq hen hp
      go_wp2_with (fail)
      refine HQ.out.mono ?_
      rintro e w' ⟨rfl, he'⟩
      have he2 := he.trans he'
      cases hpk : p (gth xs k)
      · have hf2 : Hid (∀ j, j < k + 1 → p (gth xs j) = false) := fun j hj => by
          rcases Nat.lt_succ_iff_lt_or_eq.1 hj with h | h
          · exact hf.out j h
          · rw [h]; exact hpk
        clear hpk
        go_wp2_with (fail)
        go_roundw
        case rel => exact ⟨k + 1, by omega, by go_num, he2, hf2⟩
        case measure => simp [intOf]; omega
      · have H2 := Lib.hid (findIdx_some gth gth_eq p xs k (by rw [HN.out]; exact hlt) hpk hf.out)
        clear hpk
        go_wp2_with (fail)
        go_ret
        exact ⟨by rw [H2.out]; rfl, he2⟩
    · have H2 := Lib.hid (findIdx_none gth gth_eq p xs (fun j hj => hf.out j (by rw [HN.out] at hj; omega)))
      go_wp2_with (fail)
      go_ret
      exact ⟨by rw [H2.out]; rfl, he⟩
set_option maxHeartbeats 400000 in
theorem containsFunc_grp (f : Nat) (cap : Array Value) (a : Option Addr) (n c : Nat) (xs : List (Sl Pr)) (p : Sl Pr → Bool) (w : World) (hn : xs.length = n) (hm : n ≤ 1000000) (hx : Grps w a xs)
    (hp : ∀ i, i < n → Asks Tryz.prog f cap w (grpV (gth xs i)) (p (gth xs i))) :
    Calls Tryz.prog 115 #[.slice a n c, .func (.func f) #[] cap] w (Ret (.bool (xs.any p)) w) := by
  have H := Lib.hid (indexFunc_grp f cap a n c xs p w hn hm hx hp)
  clear hp
  rw [any_idx]
  go_enter Tryz.func115, Tryz.ntmps115
  go_wp2_with (go_at_call 145; refine H.out.mono ?_; rintro e w' ⟨rfl, he⟩)
  go_ret
  exact ⟨rfl, he⟩
set_option maxHeartbeats 400000 in
theorem indexFunc_set (f : Nat) (cap : Array Value) (a : Option Addr) (n c : Nat) (xs : List (Se)) (p : Se → Bool) (w : World) (hn : xs.length = n) (hm : n ≤ 1000000) (hx : Sets w a xs)
    (hp : ∀ i, i < n → Asks Tryz.prog f cap w (setV (eth xs i)) (p (eth xs i))) :
    Calls Tryz.prog 132 #[.slice a n c, .func (.func f) #[] cap] w (Ret (.int .i64 (idxOr (xs.findIdx? p))) w) := by
  have HN := Lib.hid hn; clear hn
  go_enter Tryz.func132, Tryz.ntmps132
  go_wp2_with (fail)
  go_loopw [5, 8] (fun _ i wr => ∃ k : Nat, k ≤ n ∧ i = .int .i64 k ∧ Ext w wr ∧ Hid (∀ j, j < k → p (eth xs j) = false)) (fun _ i _ => n - (intOf i).toNat)
  case atStart => exact ⟨0, Nat.zero_le _, rfl, Ext.refl _, fun j hj => by omega⟩
  case round =>
    obtain ⟨k, hk, rfl, he, hf⟩ := hrel
    by_cases hlt : k < n
    · obtain ⟨b, o, rfl, c0, c1⟩ := set_at hx k (by rw [HN.out]; exact hlt)
      obtain ⟨hen, hq⟩ := hp k hlt
      have HQ := Lib.hid (hq wr he)
      have hen' := hen (#[setV (eth xs k)] ++ cap) wr
      clear hq hen hp
      go_wp2_with (fail)
      refine HQ.out.mono ?_
      rintro e w' ⟨rfl, he'⟩
      have he2 := he.trans he'
      cases hpk : p (eth xs k)
      · have hf2 : Hid (∀ j, j < k + 1 → p (eth xs j) = false) := fun j hj => by
          rcases Nat.lt_succ_iff_lt_or_eq.1 hj with h | h
          · exact hf.out j h
          · rw [h]; exact hpk
        clear hpk
        go_wp2_with (fail)
        go_roundw
        case rel => exact ⟨k + 1, by omega, by go_num, he2, hf2⟩
        case measure => simp [intOf]; omega
      · have H2 := Lib.hid (findIdx_some eth eth_eq p xs k (by rw [HN.out]; exact hlt) hpk hf.out)
        clear hpk
        go_wp2_with (fail)
        go_ret
        exact ⟨by rw [H2.out]; rfl, he2⟩
    · have H2 := Lib.hid (findIdx_none eth eth_eq p xs (fun j hj => hf.out j (by rw [HN.out] at hj; omega)))
      go_wp2_with (fail)
      go_ret
      exact ⟨by rw [H2.out]; rfl, he⟩
set_option maxHeartbeats 400000 in
theorem containsFunc_set (f : Nat) (cap : Array Value) (a : Option Addr) (n c : Nat) (xs : List (Se)) (p : Se → Bool) (w : World) (hn : xs.length = n) (hm : n ≤ 1000000) (hx : Sets w a xs)
    (hp : ∀ i, i < n → Asks Tryz.prog f cap w (setV (eth xs i)) (p (eth xs i))) :
    Calls Tryz.prog 106 #[.slice a n c, .func (.func f) #[] cap] w (Ret (.bool (xs.any p)) w) := by
  have H := Lib.hid (indexFunc_set f cap a n c xs p w hn hm hx hp)
  clear hp
  rw [any_idx]
  go_enter Tryz.func106, Tryz.ntmps106
  go_wp2_with (go_at_call 132; refine H.out.mono ?_; rintro e w' ⟨rfl, he⟩)
  go_ret
  exact ⟨rfl, he⟩
theorem int_at {w : World} {a : Option Addr} {xs : List Int} (h : Ints w a xs) (i : Nat) (hi : i < xs.length) : ∃ b o, a = some ⟨b, o, none⟩ ∧ ∀ W, Ext w W → W.cell? ⟨b, o + i, none⟩ = some (.int .i64 (nth xs i)) := h.at i hi
abbrev intV (x : Int) : Value := .int .i64 x
set_option maxHeartbeats 400000 in
theorem indexFunc_int (f : Nat) (cap : Array Value) (a : Option Addr) (n c : Nat) (xs : List (Int)) (p : Int → Bool) (w : World) (hn : xs.length = n) (hm : n ≤ 1000000) (hx : Ints w a xs)
    (hp : ∀ i, i < n → Asks Tryz.prog f cap w (intV (nth xs i)) (p (nth xs i))) :
    Calls Tryz.prog 131 #[.slice a n c, .func (.func f) #[] cap] w (Ret (.int .i64 (idxOr (xs.findIdx? p))) w) := by
  have HN := Lib.hid hn; clear hn
  go_enter Tryz.func131, Tryz.ntmps131
  go_wp2_with (fail)
  go_loopw [5, 8] (fun _ i wr => ∃ k : Nat, k ≤ n ∧ i = .int .i64 k ∧ Ext w wr ∧ Hid (∀ j, j < k → p (nth xs j) = false)) (fun _ i _ => n - (intOf i).toNat)
  case atStart => exact ⟨0, Nat.zero_le _, rfl, Ext.refl _, fun j hj => by omega⟩
  case round =>
    obtain ⟨k, hk, rfl, he, hf⟩ := hrel
    by_cases hlt : k < n
    · obtain ⟨b, o, rfl, c0⟩ := int_at hx k (by rw [HN.out]; exact hlt)
      obtain ⟨hen, hq⟩ := hp k hlt
      have HQ := Lib.hid (hq wr he)
      have hen' := hen (#[intV (nth xs k)] ++ cap) wr
      clear hq hen hp
      go_wp2_with (fail)
      refine HQ.out.mono ?_
      rintro e w' ⟨rfl, he'⟩
      have he2 := he.trans he'
      cases hpk : p (nth xs k)
      · have hf2 : Hid (∀ j, j < k + 1 → p (nth xs j) = false) := fun j hj => by
          rcases Nat.lt_succ_iff_lt_or_eq.1 hj with h | h
          · exact hf.out j h
          · rw [h]; exact hpk
        clear hpk
        go_wp2_with (fail)
        go_roundw
        case rel => exact ⟨k + 1, by omega, by go_num, he2, hf2⟩
        case measure => simp [intOf]; omega
      · have H2 := Lib.hid (findIdx_some nth nth_eq p xs k (by rw [HN.out]; exact hlt) hpk hf.out)
        clear hpk
        go_wp2_with (fail)
        go_ret
        exact ⟨by rw [H2.out]; rfl, he2⟩
    · have H2 := Lib.hid (findIdx_none nth nth_eq p xs (fun j hj => hf.out j (by rw [HN.out] at hj; omega)))
      go_wp2_with (fail)
      go_ret
      exact ⟨by rw [H2.out]; rfl, he⟩
set_option maxHeartbeats 400000 in
theorem containsFunc_int (f : Nat) (cap : Array Value) (a : Option Addr) (n c : Nat) (xs : List (Int)) (p : Int → Bool) (w : World) (hn : xs.length = n) (hm : n ≤ 1000000) (hx : Ints w a xs)
    (hp : ∀ i, i < n → Asks Tryz.prog f cap w (intV (nth xs i)) (p (nth xs i))) :
    Calls Tryz.prog 128 #[.slice a n c, .func (.func f) #[] cap] w (Ret (.bool (xs.any p)) w) := by
  have H := Lib.hid (indexFunc_int f cap a n c xs p w hn hm hx hp)
  clear hp
  rw [any_idx]
  go_enter Tryz.func128, Tryz.ntmps128
  go_wp2_with (go_at_call 131; refine H.out.mono ?_; rintro e w' ⟨rfl, he⟩)
  go_ret
  exact ⟨rfl, he⟩
end Go.Proofs.YtplbofhgmflnlaaGreat
