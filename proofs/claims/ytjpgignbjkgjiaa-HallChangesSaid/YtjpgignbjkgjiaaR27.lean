/-
  Texts merged: R26, R27.
-/
import Derived.Test.YtjpgignbjkgjiaaP24
import Derived.Test.YtjpgignbjkgjiaaR9
section
/-
  HallSecret's own functions: what a guise says of a campaign, and whether two views are the same.
-/
set_option linter.unusedVariables false
set_option linter.unusedSimpArgs false
namespace Go.Proofs.Ytjpgignbjkgjiaa
open Go.RowKit
set_option maxHeartbeats 1000000 in
theorem pick_any (ch : List Int) (a : Option Addr) (n c i : Nat) (w : World) (hb : Byts w a ch) (hn : ch.length = n) (hi : i < 1000) (hn1 : n ≤ 9223372036854775807) :
    Calls Try.prog 20 #[.slice a n c, .int .i64 i] w (Ret (.int .u8 (pickS ch i)) w) := by
  have HN := Lib.hid hn
  have hns : n ≤ ch.length := by omega
  clear hn
  cases T : ((n : Int) == 0)
  · have hn0 : 0 < n := by have : ¬ (n : Int) = 0 := by simpa using T
                           omega
    have HE : Hid (pickS ch i = nth ch (i % n)) := by rw [Hid, pickS, if_neg (by rw [HN.out]; omega), HN.out]
    have hlt : i % n < n := Nat.mod_lt _ hn0
    obtain ⟨b', o', rfl, c0⟩ := hb.at (i % n) (by omega)
    have hm : Int.tmod (i : Int) (n : Int) = ((i % n : Nat) : Int) := by rw [Int.ofNat_tmod]
    go_enter Try.func20, Try.ntmps20
    go_wp2_with (fail)
    go_ret
    exact ⟨by rw [HE.out]; rfl, Ext.refl _⟩
  · have HE : Hid (pickS ch i = 0) := by
      have : (n : Int) = 0 := by simpa using T
      rw [Hid, pickS, if_pos (by rw [HN.out]; omega)]
    go_enter Try.func20, Try.ntmps20
    go_wp2_with (fail)
    go_ret
    exact ⟨by rw [HE.out]; rfl, Ext.refl _⟩
set_option maxHeartbeats 1000000 in
theorem seen_any (xs ys : List Int) (a b : Option Addr) (n m c d : Nat) (w : World) (hx : Byts w a xs) (hy : Byts w b ys) (hn : xs.length = n) (hm : ys.length = m) (hn1 : n ≤ 1000000) (hm1 : m ≤ 1000000) :
    Calls Try.prog 21 #[.slice a n c, .slice b m d] w (Ret (.bool (sameB xs ys)) w) := by
  have HN := Lib.hid hn; have HM := Lib.hid hm
  have hns : n ≤ xs.length := by omega
  have hms : m ≤ ys.length := by omega
  clear hn hm
  cases T : ((n : Int) != (m : Int))
  · have hnm : n ≤ m := by simp at T; omega
    have hmn : m ≤ n := by simp at T; omega
    go_enter Try.func21, Try.ntmps21
    go_wp2_with (fail)
    go_loopw [5] (fun i wr => ∃ k : Nat, k ≤ n ∧ i = .int .i64 k ∧ Ext w wr ∧ Hid (∀ j, j < k → nth xs j = nth ys j)) (fun i _ => n - (intOf i).toNat)
    case atStart => exact ⟨0, Nat.zero_le _, rfl, Ext.refl _, fun j hj => by omega⟩
    case round =>
      obtain ⟨k, hk, rfl, hr, hf⟩ := hrel
      by_cases hlt : k < n
      · obtain ⟨b', o', rfl, c0⟩ := hx.at k (by omega)
        obtain ⟨b'', o'', rfl, d0⟩ := hy.at k (by omega)
        have hkm : k < m := by omega
        go_wp2_with (fail)
        refine wp_region_ext (by kernel_rfl) (by kernel_rfl) hr ?_
        repeat (first | go_big_quiet_step (fail) | quiet_step (fail))
        refine wpQuiet_nil ?_
        rintro _ ⟨nq, rfl⟩
        have hq := nq.ok
        cases T2 : (nth xs k != nth ys k)
        · have hf2 : Hid (∀ j, j < k + 1 → nth xs j = nth ys j) := fun j hj => by
            rcases Nat.lt_succ_iff_lt_or_eq.1 hj with h | h
            · exact hf.out j h
            · rw [h]; simpa using T2
          go_wp2_with (fail)
          go_roundw
          case rel => exact ⟨k + 1, by omega, by go_num, hq, hf2⟩
          case measure => simp [intOf]; omega
        · have H2 : Hid (sameB xs ys = false) := by
            have : ¬ nth xs k = nth ys k := by simpa using T2
            refine decide_eq_false fun e => this (by rw [e])
          go_wp2_with (fail)
          go_ret
          exact ⟨by rw [H2.out]; rfl, hq⟩
      · obtain rfl : k = n := by omega
        have H2 : Hid (sameB xs ys = true) := decide_eq_true (ext_nth _ _ (by rw [HN.out, HM.out]; omega) fun i hi => hf.out i (by rw [HN.out] at hi; exact hi))
        go_wp2_with (fail)
        go_ret
        exact ⟨by rw [H2.out]; rfl, hr⟩
  · have H2 : Hid (sameB xs ys = false) := by
      have : ¬ (n : Int) = m := by simpa using T
      refine decide_eq_false fun e => this (by rw [← HN.out, ← HM.out, e])
    go_enter Try.func21, Try.ntmps21
    go_wp2_with (fail)
    go_ret
    exact ⟨by rw [H2.out]; rfl, Ext.refl _⟩
end Go.Proofs.Ytjpgignbjkgjiaa
end
section
/-
  Own rows beside stores and appends: what stays; a campaign of which two fields are set in any order; slices of one element.
-/
set_option linter.unusedVariables false
set_option linter.unusedSimpArgs false
namespace Go.Proofs.Ytjpgignbjkgjiaa
open Go.RowKit
theorem ownsRow_x {w w' : World} {X B : Nat} {e T : TypeId} {size n : Nat} {v : Value} {xs : List Value} {cs : Array Value} {fz : Nat × Nat} (h : w.ownsRow B e size v n xs) (hx : ExtX X w w') (hk : w.heap[X]? = some (.cells cs T fz)) (hT : T ≠ e) : w'.ownsRow B e size v n xs := by
  obtain ⟨h1, h2⟩ := h
  refine ⟨h1, ?_⟩
  rcases h2 with h2 | ⟨g, cap, cur, hv, hg, hh, r⟩
  · exact .inl h2
  · refine .inr ⟨g, cap, cur, hv, hg, ?_, r⟩
    rw [hx.block g (lt_of_block hh) (fun e => by subst e; rw [hk] at hh; cases hh; exact hT rfl)]
    exact hh
/-- A row above the written block stays. -/
theorem own_above {w w' : World} {X B : Nat} {e : TypeId} {size n : Nat} {v : Value} {xs : List Value} (h : w.ownsRow B e size v n xs) (hx : ExtX X w w') (hB : X < B) : w'.ownsRow B e size v n xs := by
  obtain ⟨h1, h2⟩ := h
  refine ⟨h1, ?_⟩
  rcases h2 with h2 | ⟨g, cap, cur, hv, hg, hh, r⟩
  · exact .inl h2
  · refine .inr ⟨g, cap, cur, hv, hg, ?_, r⟩
    rw [hx.block g (lt_of_block hh) (by omega)]
    exact hh
theorem ownsRow_blk {w : World} {B g n m c size : Nat} {e : TypeId} {xs : List Value} (h : w.ownsRow B e size (.slice (some ⟨g, 0, none⟩) n c) m xs) : B ≤ g ∧ ∃ cur, w.heap[g]? = some (.cells cur e (0, 0)) := by
  rcases h.2 with ⟨hv, _⟩ | ⟨g', cap, cur, hv, hg, hh, r⟩
  · cases hv
  · simp only [Value.slice.injEq, Option.some.injEq, Addr.mk.injEq] at hv
    obtain ⟨⟨rfl, _⟩, _⟩ := hv
    exact ⟨hg, cur, hh⟩
theorem ownsRow_ne {w : World} {B g n m c size X : Nat} {e T : TypeId} {xs : List Value} {cs : Array Value} {fz : Nat × Nat} (h : w.ownsRow B e size (.slice (some ⟨g, 0, none⟩) n c) m xs) (hk : w.heap[X]? = some (.cells cs T fz)) (hT : T ≠ e) : X ≠ g := by
  rintro rfl
  obtain ⟨-, cur, hh⟩ := ownsRow_blk h
  rw [hk] at hh; cases hh; exact hT rfl
theorem ownsRow_at {w w' : World} {B g n c m size : Nat} {e : TypeId} {xs : List Value} (h : w.ownsRow B e size (.slice (some ⟨g, 0, none⟩) n c) m xs) (hk : w'.heap[g]? = w.heap[g]?) : w'.ownsRow B e size (.slice (some ⟨g, 0, none⟩) n c) m xs := by
  obtain ⟨h1, h2⟩ := h
  refine ⟨h1, ?_⟩
  rcases h2 with h2 | ⟨g', cap, cur, hv, hg, hh, r⟩
  · exact .inl h2
  · have hg' := hv
    simp only [Value.slice.injEq, Option.some.injEq, Addr.mk.injEq] at hg'
    obtain ⟨⟨rfl, _⟩, _⟩ := hg'
    exact .inr ⟨g, cap, cur, hv, hg, by rw [hk]; exact hh, r⟩
/-- The block of a row, where it has one. -/
theorem ownsRow_ownBlock {w : World} {B n k size : Nat} {e : TypeId} {v : Value} {xs : List Value} (h : w.ownsRow B e size v n xs) (hv : v.ownBlock = some k) : B ≤ k ∧ ∃ cur, w.heap[k]? = some (.cells cur e (0, 0)) := by
  rcases h.2 with ⟨rfl, _⟩ | ⟨g, cap, cur, rfl, hg, hh, r⟩
  · cases hv
  · cases hv; exact ⟨hg, cur, hh⟩
/-- A row stays when another, of cells of another kind, has grown. -/
theorem ownsRow_grown {w w' : World} {B B' size size' n m : Nat} {e e' : TypeId} {v u : Value} {xs ys : List Value} (h : w.ownsRow B e size v n xs) (hu : w.ownsRow B' e' size' u m ys) (hg : w.grownBy w' u.ownBlock) (hT : e' ≠ e) : w'.ownsRow B e size v n xs := by
  obtain ⟨h1, h2⟩ := h
  refine ⟨h1, ?_⟩
  rcases h2 with h2 | ⟨g, cap, cur, hv, hgB, hh, r⟩
  · exact .inl h2
  · refine .inr ⟨g, cap, cur, hv, hgB, ?_, r⟩
    rw [hg.block g (lt_of_block hh) (fun e => by obtain ⟨_, cur', hc⟩ := ownsRow_ownBlock hu e.symm; rw [hc] at hh; cases hh; exact hT rfl)]
    exact hh
/-- A block stays when a row of cells of another kind has grown. -/
theorem block_grown {w w' : World} {B' size' m g : Nat} {e e' : TypeId} {u : Value} {ys : List Value} {cs : Array Value} {fz : Nat × Nat} (h : w.heap[g]? = some (.cells cs e fz)) (hu : w.ownsRow B' e' size' u m ys) (hg : w.grownBy w' u.ownBlock) (hT : e' ≠ e) : w'.heap[g]? = some (.cells cs e fz) := by
  rw [hg.block g (lt_of_block h) (fun e => by obtain ⟨_, cur', hc⟩ := ownsRow_ownBlock hu e.symm; rw [hc] at h; cases h; exact hT rfl)]
  exact h
theorem grown_extX {X : Nat} {w w1 w' : World} {o : Option Nat} (he : ExtX X w w1) (hg : w1.grownBy w' o) (hb : ∀ k, o = some k → w.heap.size ≤ k) : ExtX X w w' :=
  ⟨hg.os.trans he.os, hg.tape.trans he.tape, hg.output.trans he.output, Nat.le_trans he.size hg.size,
    fun k hk hx => (hg.block k (by have := he.size; omega) (fun e => by have := hb k e.symm; omega)).trans (he.block k hk hx)⟩
theorem ownC_putC {w : World} {B g n c k j : Nat} {cs : List Camp} {X : Camp} (hn : cs.length = n) (h : OwnC w B (.slice (some ⟨g, 0, none⟩) n c) (cs.set k X)) (hk : k < n) (hj : j < 7) (v : Int) :
    OwnC (w.setCell ⟨g, k * 7 + j, none⟩ (.int .i64 v)) B (.slice (some ⟨g, 0, none⟩) n c) (cs.set k (cput X j v)) := by
  have := ownC_set (j := j) (by rw [List.length_set]; exact hn) h hk hj v
  rw [cth_set _ _ _ _ (by omega), if_pos rfl, set_set] at this
  exact this
theorem ownC_atC {w : World} {B g n c k j : Nat} {cs : List Camp} {X : Camp} (hn : cs.length = n) (h : OwnC w B (.slice (some ⟨g, 0, none⟩) n c) (cs.set k X)) (hk : k < n) (hj : j < 7) : w.cell? ⟨g, k * 7 + j, none⟩ = some (ccell X j) ∧ ∀ q, w.frozen? ⟨g, q, none⟩ = false := by
  have hn' : (cs.set k X).length = n := by rw [List.length_set]; exact hn
  have := ownC_cell (i := k) (j := j) hn' h hk hj
  rw [cth_set _ _ _ _ (by omega), if_pos rfl] at this
  exact ⟨this, fun q => ownC_free hn' h q⟩
theorem set_same (cs : List Camp) (k : Nat) (hk : k < cs.length) : cs.set k (cth cs k) = cs := ext_cth _ _ (by simp) fun i hi => by
  rw [List.length_set] at hi
  rw [cth_set _ _ _ _ hi]
  by_cases e : i = k
  · subst e; rw [if_pos rfl]
  · rw [if_neg e]
theorem ownI_put {w : World} {B g n c j : Nat} {xs : List Int} (hn : xs.length = n) (h : OwnI w B (.slice (some ⟨g, 0, none⟩) n c) xs) (v : Int) : OwnI (w.setCell ⟨g, j, none⟩ (.int .i64 v)) B (.slice (some ⟨g, 0, none⟩) n c) (xs.set j v) := by
  subst hn
  unfold OwnI at *
  have := (h.stored j (.int .i64 v)).1
  rw [List.length_set]
  have e : rowI (xs.set j v) = (rowI xs).set j (.int .i64 v) := by simp [rowI, List.map_set]
  rw [e]; exact this
/-- A store into a block that is newer. -/
theorem ExtX.above {X Y : Nat} {a b c : World} (h : ExtX X a b) (k : ExtX Y b c) (hY : a.heap.size ≤ Y) : ExtX X a c :=
  ⟨k.os.trans h.os, k.tape.trans h.tape, k.output.trans h.output, Nat.le_trans h.size k.size, fun j h1 h2 => (k.block j (by have := h.size; omega) (by omega)).trans (h.block j h1 h2)⟩
theorem ownsRow_other {w w' : World} {X B g n c m size : Nat} {e : TypeId} {xs : List Value} (h : w.ownsRow B e size (.slice (some ⟨g, 0, none⟩) n c) m xs) (hx : ExtX X w w') (hne : g ≠ X) : w'.ownsRow B e size (.slice (some ⟨g, 0, none⟩) n c) m xs :=
  ownsRow_at h (hx.block g (lt_of_block (ownsRow_blk h).2.choose_spec) hne)
theorem ownI_form {w : World} {B n c : Nat} {a : Option Addr} {xs : List Int} (h : OwnI w B (.slice a n c) xs) (h0 : 0 < xs.length) : ∃ g, a = some ⟨g, 0, none⟩ ∧ B ≤ g ∧ g < w.heap.size := by
  rcases h.2 with ⟨_, hn⟩ | ⟨g, cap, cur, hv, hg, hh, _⟩
  · omega
  · simp only [Value.slice.injEq] at hv
    exact ⟨g, hv.1, hg, lt_of_block hh⟩
theorem Ints.xx {w w' : World} {X g : Nat} {xs : List Int} (h : Ints w (some ⟨g, 0, none⟩) xs) (hx : ExtX X w w') (hne : g ≠ X) : Ints w' (some ⟨g, 0, none⟩) xs := by
  rcases h with h | ⟨b, o, h1, h2⟩
  · exact .inl h
  · refine .inr ⟨b, o, h1, fun i hi => hx.cell (h2 i hi) ?_⟩
    cases h1; exact hne
/-- Hours and the latest end set, each or not yet. -/
def c25 (c : Camp) (a : Bool) (n : Int) (b : Bool) (m : Int) : Camp := { c with ho := if a = true then n else c.ho, la := if b = true then m else c.la }
/-- Preparation and hours set, each or not yet. -/
def c12 (c : Camp) (a : Bool) (n : Int) (b : Bool) (m : Int) : Camp := { c with pr := if a = true then n else c.pr, ho := if b = true then m else c.ho }
/-- The cells of a campaign that stands alone. -/
def crow (c : Camp) : Array Value := #[.int .i64 c.cu, .int .i64 c.pr, .int .i64 c.ho, .int .i64 c.en, .int .i64 c.ea, .int .i64 c.la, .int .i64 c.we]
theorem c25_first (c : Camp) (N n : Int) : c25 c true n true N = firstC N c n := rfl
theorem c12_rest (c : Camp) (n : Int) : c12 c true 0 true (c.ho - n) = restC c n := rfl
theorem othC_puts (N : Nat) (cl cu : Int) (c : Camp) (t k : Int) (r : Camp) (h : r = cput (cput (cput (cput c 1 (k % (t - c.ea + 1) % 25)) 3 (k * 3)) 6 (k % 100)) 5 N) :
    (if ¬ (c.cu + 1) % 21 = cu ∧ cl = 0 then cput r 0 ((c.cu + 1) % 21) else r) = othC N cl cu c t k := by
  subst h
  unfold othC nextC
  split <;> rfl
end Go.Proofs.Ytjpgignbjkgjiaa
end
