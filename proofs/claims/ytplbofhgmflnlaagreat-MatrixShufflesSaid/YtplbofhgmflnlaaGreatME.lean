/-
  Walks: isReason.
-/
import Derived.Test.YtplbofhgmflnlaaGreatM26
import Derived.Laws.MakeOwn
set_option linter.unusedVariables false
set_option linter.unusedSimpArgs false
namespace Go.Proofs.YtplbofhgmflnlaaGreat
open Go.RowKit
abbrev u8 (n : Nat) : Value := .int .u8 (n : Int)
/-- The i-th byte. -/
def bth (xs : List UInt8) (i : Nat) : Nat := (xs.getD i 0).toNat
theorem bth_lt (xs : List UInt8) (i : Nat) : bth xs i < 256 := by unfold bth; exact UInt8.toNat_lt _
theorem bth_eq (xs : List UInt8) (i : Nat) (h : i < xs.length) : bth xs i = xs[i].toNat := by simp [bth, h]
/-- Bytes as cells. -/
def rowB (xs : List UInt8) : List Value := xs.map fun b => u8 b.toNat
theorem rowB_len (xs : List UInt8) : (rowB xs).length = xs.length := by simp [rowB]
theorem rowB_get (xs : List UInt8) (i : Nat) (h : i < xs.length) : (rowB xs)[i]? = some (u8 (bth xs i)) := by simp [rowB, bth_eq _ _ h, h]
theorem rowB_one (xs : List UInt8) : ∀ u ∈ rowB xs, u.oneCell' = true := by
  intro u hu
  simp only [rowB, List.mem_map] at hu
  obtain ⟨x, _, rfl⟩ := hu
  rfl
def OwnB (w : World) (B : Nat) (v : Value) (xs : List UInt8) : Prop :=
  (v = .slice none 0 0 ∧ xs = []) ∨
  ∃ g cap cur fz, v = .slice (some ⟨g, 0, none⟩) xs.length cap ∧ B ≤ g ∧ w.heap[g]? = some (.cells cur 5 fz) ∧ xs.length ≤ cap ∧ cap ≤ maxLen ∧ cur.size = cap ∧ cur.toList.take xs.length = rowB xs ∧ (fz = (0, 0) ∨ cap ≤ fz.1)
theorem OwnB.ext {w w' : World} {B : Nat} {v : Value} {xs : List UInt8} (h : OwnB w B v xs) (e : Ext w w') : OwnB w' B v xs := by
  rcases h with h | ⟨g, cap, cur, fz, hv, hg, hh, r⟩
  · exact .inl h
  · exact .inr ⟨g, cap, cur, fz, hv, hg, e.block hh, r⟩
theorem OwnB.cell {w : World} {B g n c : Nat} {xs : List UInt8} (h : OwnB w B (.slice (some ⟨g, 0, none⟩) n c) xs) (i : Nat) (hi : i < xs.length) : w.cell? ⟨g, i, none⟩ = some (u8 (bth xs i)) := by
  rcases h with ⟨h, rfl⟩ | ⟨g', cap, cur, fz, hv, hg, hh, hnc, hcm, hs, ht, hf⟩
  · cases h
  · simp only [Value.slice.injEq, Option.some.injEq, Addr.mk.injEq] at hv
    obtain ⟨⟨rfl, _⟩, _⟩ := hv
    have h3 : (cur.toList.take xs.length)[i]? = cur.toList[i]? := by rw [List.getElem?_take]; simp [hi]
    rw [ht, rowB_get xs i hi] at h3
    simp only [World.cell?, hh, Option.isSome_none, Bool.false_eq_true, if_false]
    rw [← Array.getElem?_toList, ← h3]
/-- What '[]byte(s)' lays. -/
def bytesW (w : World) (s : ByteArray) : World := w.drew.alloc (.cells (bytesRow s (grownCap w s.size 0 5)) 5 ((bytesRow s (grownCap w s.size 0 5)).size, (bytesRow s (grownCap w s.size 0 5)).size + 1))
def bytesC (w : World) (s : ByteArray) : Nat := grownCap w s.size 0 5
@[go_sem ↓] theorem run_bytesOf (w : World) (s : ByteArray) : (convert 9 197 (.string s)).run Tryz.prog w = .ok (.slice (some ⟨w.heap.size, 0, none⟩) s.size (bytesC w s)) (bytesW w s) :=
  run_bytes_of_string w 9 197 5 s Tryz.underlying9 Tryz.underlying197 Tryz.underlying5
theorem len_data (s : ByteArray) : s.data.toList.length = s.size := by simp
theorem bytesW_facts (w : World) (s : ByteArray) (hs : s.size ≤ maxLen) : Ext w (bytesW w s) ∧ OwnB (bytesW w s) w.heap.size (.slice (some ⟨w.heap.size, 0, none⟩) s.size (bytesC w s)) s.data.toList ∧ (bytesW w s).heap.size = w.heap.size + 1 := by
  refine ⟨((Ext.refl w).drew).alloc _, ?_, heap_size w.drew _⟩
  have hge : s.size ≤ bytesC w s := grownCap_ge w s.size 0 5
  have hsz : (bytesRow s (bytesC w s)).size = bytesC w s := by
    simp only [bytesRow, Array.size_append, Array.size_map, Array.size_replicate]
    have : s.data.size = s.size := rfl
    omega
  refine .inr ⟨w.heap.size, bytesC w s, bytesRow s (bytesC w s), _, by rw [len_data], Nat.le_refl _, heap_new w.drew _, by rw [len_data]; exact hge, grownCap_le_maxLen w s.size 0 5 hs, hsz, ?_, .inr (Nat.le_of_eq hsz.symm)⟩
  unfold bytesRow rowB
  rw [Array.toList_append]
  exact (List.take_left' (by simp)).trans (by simp)
@[go_sem] theorem ext_bytesW {a w : World} (h : Ext a w) (s : ByteArray) : Ext a (bytesW w s) := (h.drew).alloc _
@[go_sem] theorem size_bytesW (w : World) (s : ByteArray) : (bytesW w s).heap.size = w.heap.size + 1 := heap_size w.drew _
/-- Whether a byte may stand at a place of a name. -/
def okChar (i c : Nat) : Bool := (decide (97 ≤ c) && decide (c ≤ 122)) || (i != 0 && (c == 95 || (decide (48 ≤ c) && decide (c ≤ 57))))
def nameCh (l : List UInt8) : Bool := (List.range l.length).all fun i => okChar i (l.getD i 0).toNat
def nameB (s : ByteArray) : Bool := nameCh s.data.toList && (s.size != 0 && decide (s.size ≤ 20))
theorem nameCh_false (l : List UInt8) (k : Nat) (hk : k < l.length) (h : okChar k (l.getD k 0).toNat = false) : nameCh l = false := by
  unfold nameCh
  rw [List.all_eq_false]
  exact ⟨k, List.mem_range.2 hk, by rw [h]; simp⟩
theorem nameCh_true (l : List UInt8) (h : ∀ k, k < l.length → okChar k (l.getD k 0).toNat = true) : nameCh l = true := by
  unfold nameCh
  rw [List.all_eq_true]
  exact fun k hk => h k (List.mem_range.1 hk)
theorem toList_loop (bs : ByteArray) : ∀ (n i : Nat) (r : List UInt8), bs.size - i = n → ByteArray.toList.loop bs i r = r.reverse ++ bs.data.toList.drop i
  | 0, i, r, h => by
    unfold ByteArray.toList.loop
    rw [if_neg (by omega), List.drop_of_length_le (by rw [len_data]; omega), List.append_nil]
  | n + 1, i, r, h => by
    unfold ByteArray.toList.loop
    rw [if_pos (by omega), toList_loop bs n (i + 1) _ (by omega)]
    have hi : i < bs.data.toList.length := by rw [len_data]; omega
    have hi2 : i < bs.data.size := by simpa using hi
    rw [List.drop_eq_getElem_cons hi, List.reverse_cons, List.append_assoc]
    congr 1
    simp [ByteArray.get!, getElem!_pos bs.data i hi2]
theorem toList_eq (s : ByteArray) : s.toList = s.data.toList := by
  unfold ByteArray.toList
  rw [toList_loop s _ 0 [] rfl]; rfl
theorem isEmpty_eq (s : ByteArray) : s.toList.isEmpty = (s.size == 0) := by
  rw [toList_eq, ← len_data s]; cases s.data.toList <;> simp
/-- An empty text, as the walk spells it. -/
theorem empty_yes {s : ByteArray} (h : (s.size == 0) = true) : s.toList = [] := by
  have := isEmpty_eq s; rw [h] at this; simpa using this
theorem empty_no {s : ByteArray} (h : (s.size == 0) = false) : ¬ s.toList = [] := by
  have := isEmpty_eq s; rw [h] at this; simpa using this
set_option maxRecDepth 100000 in
set_option maxHeartbeats 4000000 in
theorem isReason_any (s : ByteArray) (w : World) (hs : s.size ≤ maxLen) : Calls Tryz.prog 100 #[.string s] w (Ret (.bool (nameB s)) w) := by
  have hs' := hs
  unfold maxLen at hs'
  go_enter Tryz.func100, Tryz.ntmps100
  go_wp2_with (fail)
  generalize hw1 : bytesW _ _ = w1
  obtain ⟨he1, o1, -⟩ := bytesW_facts w s hs
  rw [hw1] at he1 o1
  have HO := Lib.hid o1
  have HE := Lib.hid he1
  have HL := Lib.hid (len_data s)
  clear hw1 o1 he1 hs
  go_loopw [9] (fun i wr => ∃ k : Nat, k ≤ s.size ∧ i = .int .i64 k ∧ Hid (∀ j, j < k → okChar j (s.data.toList.getD j 0).toNat = true) ∧ Ext w1 wr) (fun i _ => s.size - (intOf i).toNat)
  case atStart => exact ⟨0, Nat.zero_le _, rfl, fun j hj => by omega, Ext.refl _⟩
  case round =>
    obtain ⟨k, hk, rfl, hf, he⟩ := hrel
    by_cases hlt : k < s.size
    · have c0 := (HO.out.ext he).cell k (by rw [HL.out]; exact hlt)
      have c1 : bth s.data.toList k = (s.data.toList.getD k 0).toNat := rfl
      obtain ⟨c, hc⟩ : ∃ c, c = bth s.data.toList k := ⟨_, rfl⟩
      have hf1 : okChar k c = false → Hid (nameB s = false) := fun h => by
        have := nameCh_false s.data.toList k (by rw [HL.out]; exact hlt) (by rw [← c1, ← hc]; exact h)
        simp [Hid, nameB, this]
      have hf2 : okChar k c = true → Hid (∀ j, j < k + 1 → okChar j (s.data.toList.getD j 0).toNat = true) := fun h j hj => by
        by_cases e : j = k
        · subst e; rw [← c1, ← hc]; exact h
        · exact hf.out j (by omega)
      rw [← hc] at c0
      clear c1 hc
      have HF1 := Lib.hid hf1; have HF2 := Lib.hid hf2
      clear hf1 hf2
      cases T1 : decide (97 ≤ (c : Int)) <;> cases T2 : decide ((c : Int) ≤ 122) <;> cases T4 : ((c : Int) != 95) <;> cases T5 : decide ((c : Int) < 48) <;> cases T6 : decide (57 < (c : Int)) <;>
        first
          | (exfalso; simp at T1 T2 T4 T5 T6; omega)
          | (cases T3 : ((k : Int) == 0) <;>
              first
                | (have hq := HF2.out (by simp at T1 T2 T3 T4 T5 T6; simp [okChar]; omega)
                   clear HF1 HF2
                   go_wp2_with (fail)
                   go_roundw
                   case rel => exact ⟨k + 1, by omega, by go_num, hq, he⟩
                   case measure => simp [intOf]; omega)
                | (have hq := HF1.out (by simp at T1 T2 T3 T4 T5 T6; simp [okChar]; omega)
                   clear HF1 HF2
                   go_wp2_with (fail)
                   go_ret
                   exact ⟨by rw [hq.out]; rfl, HE.out.trans he⟩))
    · obtain rfl : k = s.size := by omega
      have hq : Hid (nameB s = (!(s.size == 0) && decide ((s.size : Int) ≤ 20))) := by
        have := nameCh_true s.data.toList (fun k hk => hf.out k (by rw [HL.out] at hk; exact hk))
        have e : decide (s.size ≤ 20) = decide ((s.size : Int) ≤ 20) := by rw [decide_eq_decide]; omega
        simp only [Hid, nameB, this, bne, e, Bool.true_and]
      cases T : (s.size == 0)
      · have t1 := empty_no T
        rw [T] at hq
        have HI := Lib.hid (isEmpty_eq s)
        rw [T] at HI
        clear T
        go_wp2_with (fail)
        go_ret
        refine ⟨?_, HE.out.trans he⟩
        rw [hq.out, ← HI.out]
        exact ret_bool (by simp [HI.out])
      · have t1 := empty_yes T
        rw [T] at hq
        clear T
        go_wp2_with (fail)
        go_ret
        exact ⟨by rw [hq.out]; rfl, HE.out.trans he⟩
end Go.Proofs.YtplbofhgmflnlaaGreat
