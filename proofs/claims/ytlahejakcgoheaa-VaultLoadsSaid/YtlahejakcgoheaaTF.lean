/-
  Words of 'forged': plain, and the row that it makes.
-/
import Derived.Test.YtlahejakcgoheaaRR
import Derived.Test.YtlahejakcgoheaaTB
import Derived.Test.YtlahejakcgoheaaLW
set_option linter.unusedVariables false
set_option linter.unusedSimpArgs false
namespace Go.Proofs.Ytlahejakcgoheaa
open Go.RowKit
/-- How a chain is changed. -/
structure Fg where
  at0 : Nat
  what : Nat
  tx : ByteArray
  num : Int
  right : Bool
def chgL (f : Fg) (l : Lk) : Lk :=
  if f.what = 1 then { l with op := (f.num % 256).toNat }
  else if f.what = 2 then { l with cu := f.tx }
  else if f.what = 3 then { l with ki := f.tx }
  else if f.what = 4 then { l with nu := f.num }
  else if f.what = 5 then { l with ve := f.num }
  else if f.what = 6 then { l with da := f.num }
  else if f.what = 7 then { l with un := f.num }
  else if f.what = 8 then { l with bo := if 0 < l.bo.length then l.bo.set (uw f.num % l.bo.length) (l.bo.getD (uw f.num % l.bo.length) 0 ^^^ UInt8.ofNat (1 + f.at0)) else l.bo }
  else if f.what = 9 then { l with tag := (l.tag + uw f.num) % 18446744073709551616 }
  else if f.what = 10 then { l with ch := (l.ch + uw f.num) % 18446744073709551616 }
  else if f.what = 11 then { l with bo := l.bo.take (l.bo.length / 2) }
  else l
def outF (f : Fg) (l : Lk) : List Lk := if f.what = 12 then [] else if f.what = 13 then [l, l] else [chgL f l]
def itemF (f : Fg) (ls : List Lk) (i : Nat) : List Lk := if i = f.at0 % ls.length then outF f (ls.getD i Lk.nil) else [ls.getD i Lk.nil]
/-- The first k links, changed. -/
def forgT (f : Fg) (ls : List Lk) (k : Nat) : List Lk := (List.range k).flatMap (itemF f ls)
theorem forgT_succ (f : Fg) (ls : List Lk) (k : Nat) : forgT f ls (k + 1) = forgT f ls k ++ itemF f ls k := by
  unfold forgT; rw [List.range_succ, List.flatMap_append]; simp
theorem forgT_len (f : Fg) (ls : List Lk) (k : Nat) : (forgT f ls k).length ≤ 2 * k := by
  induction k with
  | zero => simp [forgT]
  | succ k ih =>
    rw [forgT_succ, List.length_append]
    have : (itemF f ls k).length ≤ 2 := by
      unfold itemF outF
      repeat' split
      all_goals simp
    omega
/-- All Chains are made right. -/
def rech (b : Nat) : List Lk → List Lk
  | [] => []
  | l :: ls => withCh l (chainN b l) :: rech (chainN b l) ls
theorem rech_len (ls : List Lk) : ∀ b, (rech b ls).length = ls.length := by
  induction ls with
  | nil => intro b; rfl
  | cons l ls ih => intro b; simp [rech, ih]
theorem rech_at (ls : List Lk) : ∀ (b k : Nat) (h : k < ls.length), (rech b ls)[k]'(by rw [rech_len]; exact h) = withCh ls[k] (chainN (lastB b ((rech b ls).take k)) ls[k]) := by
  induction ls with
  | nil => intro b k h; simp at h
  | cons l ls ih =>
    intro b k h
    cases k with
    | zero => rfl
    | succ k =>
      have := ih (chainN b l) k (by simpa using h)
      simp only [rech, List.getElem_cons_succ, List.take_succ_cons, lastB]
      exact this
theorem lastB_snoc (ls : List Lk) (l : Lk) : ∀ b, lastB b (ls ++ [l]) = l.ch := by
  induction ls with
  | nil => intro b; rfl
  | cons x ls ih => intro b; exact ih x.ch
def forgL (f : Fg) (ls : List Lk) : List Lk := if f.right then rech 7 (forgT f ls ls.length) else forgT f ls ls.length
/-- A row of links of one's own with Bodies of one's own. -/
structure RowB (w0 w : World) (v : Value) (ys : List Lv) : Prop where
  row : OwnL w w0.heap.size v ys
  bod : ∀ y ∈ ys, OwnB w w0.heap.size (.slice y.ba y.l.bo.length y.bc) y.l.bo ∧ (∀ k, v.ownBlock = some k → k ∉ ob y.ba) ∧ LkOk y.l
  old : Ext w0 w
section
variable {w0 w : World} {v : Value} {ys : List Lv}
theorem RowB.ext {w' : World} (h : RowB w0 w v ys) (e : Ext w w') : RowB w0 w' v ys := ⟨h.row.ext e, fun y hy => ⟨(h.bod y hy).1.ext e, (h.bod y hy).2⟩, h.old.trans e⟩
/-- A link that lies in a block is put behind. -/
theorem RowB.put (h : RowB w0 w v ys) (x : Lv) (g : Nat) (hg : w.heap[g]? = some (.cells (lcells x) 59 (0, 0))) (hb : OwnB w w0.heap.size (.slice x.ba x.l.bo.length x.bc) x.l.bo) (hf : ∀ k, v.ownBlock = some k → k ∉ ob x.ba) (ho : LkOk x.l) (hn : ys.length ≤ 1000000) :
    ∃ v' w', (Builtin.append_ #[38, 38] 38 #[v, .slice (some ⟨g, 0, none⟩) 1 1]).run Try.prog w = .ok v' w' ∧ RowB w0 w' v' (ys ++ [x]) ∧ (∀ k, k < w.heap.size → v.ownBlock ≠ some k → w'.heap[k]? = w.heap[k]?) ∧ (v'.ownBlock = v.ownBlock ∨ v'.ownBlock = some w.heap.size) := by
  obtain ⟨v', w', r1, r2, r3, r4⟩ := app_oneL 38 w w0.heap.size v ys h.row x g hg hn h.old.size
  have hlt := World.ownsRow.lt h.row
  have hblk : ∀ k, k < w.heap.size → v.ownBlock ≠ some k → w'.heap[k]? = w.heap[k]? := fun k q1 q2 => r3.block k q1 fun e => q2 e.symm
  have hbk : ∀ y : Lv, OwnB w w0.heap.size (.slice y.ba y.l.bo.length y.bc) y.l.bo → (∀ k, v.ownBlock = some k → k ∉ ob y.ba) → OwnB w' w0.heap.size (.slice y.ba y.l.bo.length y.bc) y.l.bo ∧ (∀ k, v'.ownBlock = some k → k ∉ ob y.ba) := fun y q1 q2 => by
    refine ⟨q1.of_block fun k hk => hblk k (q1.lt k hk).2 fun e => q2 k e ((ob_own _ _ _ _).2 hk), fun k hk q => ?_⟩
    rcases r4 with r4 | r4
    · exact q2 k (r4 ▸ hk) q
    · rw [r4] at hk
      have := Option.some.inj hk
      have := (q1.lt k ((ob_own _ _ _ _).1 q)).2
      omega
  refine ⟨v', w', r1, ⟨r2, fun y hy => ?_, grown_ext h.old r3 (fun k hk => (hlt k hk).1)⟩, hblk, r4⟩
  rcases List.mem_append.1 hy with hy | hy
  · obtain ⟨q1, q2, q3⟩ := h.bod y hy
    obtain ⟨q4, q5⟩ := hbk y q1 q2
    exact ⟨q4, q5, q3⟩
  · simp only [List.mem_singleton] at hy; subst hy
    obtain ⟨q4, q5⟩ := hbk y hb hf
    exact ⟨q4, q5, ho⟩
theorem RowB.slice (h : RowB w0 w v ys) : ∃ a c, v = .slice a ys.length c := ownL_slice h.row
theorem RowB.links {a : Option Addr} {n c : Nat} (h : RowB w0 w (.slice a n c) ys) : Links w a ys ∧ LksOk ys := by
  refine ⟨ownL_links h.row fun y hy => (h.bod y hy).1.byts.1, fun i hi => ?_⟩
  rw [lth_eq _ _ hi]; exact (h.bod _ (List.getElem_mem hi)).2.2
/-- The Chain of a link is set. -/
theorem RowB.setC {g c i d : Nat} (h : RowB w0 w (.slice (some ⟨g, 0, none⟩) ys.length c) ys) (hi : i < ys.length) (hd : d < 18446744073709551616) :
    RowB w0 (w.setCell ⟨g, i * 10 + 9, none⟩ (u64 d)) (.slice (some ⟨g, 0, none⟩) ys.length c) (ys.set i ⟨withCh ys[i].l d, ys[i].ba, ys[i].bc⟩) := by
  have hlt := World.ownsRow.lt h.row g rfl
  have hk : ∀ k, k ≠ g → (w.setCell ⟨g, i * 10 + 9, none⟩ (u64 d)).heap[k]? = w.heap[k]? := fun k q => heap_set_ne _ q
  refine ⟨?_, fun y hy => ?_, h.old.set (p := ⟨g, i * 10 + 9, none⟩) hlt.1 _⟩
  · have hr := (World.ownsRow.stored h.row (i * 10 + 9) (u64 d)).1
    rw [rowF_set lcl lcl_len ys i 9 (u64 d) ⟨withCh ys[i].l d, ys[i].ba, ys[i].bc⟩ hi (by omega) (by simp [lcl, lcells, withCh])] at hr
    unfold OwnL OwnF
    rw [List.length_set]
    exact hr
  · have hb : ∀ y ∈ ys, OwnB (w.setCell ⟨g, i * 10 + 9, none⟩ (u64 d)) w0.heap.size (.slice y.ba y.l.bo.length y.bc) y.l.bo := fun y hy => (h.bod y hy).1.of_block fun k q => hk k fun e => (h.bod y hy).2.1 k (by rw [e]; rfl) ((ob_own _ _ _ _).2 q)
    rcases List.mem_or_eq_of_mem_set hy with hy | rfl
    · exact ⟨hb y hy, (h.bod y hy).2⟩
    · have hm := List.getElem_mem hi
      have q := hb _ hm
      exact ⟨q, (h.bod _ hm).2.1, (h.bod _ hm).2.2.chd d hd⟩
theorem RowB.free {g c : Nat} (h : RowB w0 w (.slice (some ⟨g, 0, none⟩) ys.length c) ys) (j : Nat) : w.frozen? ⟨g, j, none⟩ = false := World.ownsRow.frozenAt h.row j
end
theorem OwnB.take {w : World} {B : Nat} {a : Option Addr} {n c : Nat} {xs : List UInt8} (h : OwnB w B (.slice a n c) xs) (k : Nat) (hk : k ≤ xs.length) : OwnB w B (.slice a k c) (xs.take k) := by
  rcases h with ⟨h, rfl⟩ | ⟨g, cap, cur, fz, hv, hg, hh, hnc, hcm, hs, ht, hf⟩
  · simp only [Value.slice.injEq] at h
    obtain ⟨rfl, -, rfl⟩ := h
    have : k = 0 := by simpa using hk
    subst this
    exact .inl ⟨rfl, rfl⟩
  · simp only [Value.slice.injEq] at hv
    obtain ⟨rfl, -, rfl⟩ := hv
    refine .inr ⟨g, c, cur, fz, by rw [List.length_take, Nat.min_eq_left hk], hg, hh, by rw [List.length_take]; omega, hcm, hs, ?_, hf⟩
    rw [List.length_take, Nat.min_eq_left hk]
    have h1 := congrArg (List.take k) ht
    rw [List.take_take, Nat.min_eq_left hk] at h1
    rw [h1]
    unfold rowB
    rw [← List.map_take]
end Go.Proofs.Ytlahejakcgoheaa
