/-
  NewBook: what the order is, and the walk (printed by genm23.py).
-/
import Derived.Test.YtplbofhgmflnlaaGreatM22
set_option linter.unusedVariables false
set_option linter.unusedSimpArgs false
namespace Go.Proofs.YtplbofhgmflnlaaGreat
open Go.RowKit
section
variable {K : Nat → List Int} {n : Nat} {sd : Int}
theorem ordK_mem (hn : n ≤ 1000000) {key : List Int} : key ∈ ordK K n sd ↔ key ∈ ddK K n := by
  unfold ordK
  rw [List.mem_flatMap]
  constructor
  · rintro ⟨b, -, h⟩
    exact (shB_mem hn h).1
  · intro h
    refine ⟨nth key 0, ?_, (shB_perm hn _).mem_iff.2 ?_⟩
    · rw [sNs_mem]
      obtain ⟨j, hj, e⟩ := (mem_ddK K key n).1 h
      exact (mem_ddK _ _ n).2 ⟨j, hj, by simp [KB, e]⟩
    · unfold kbI
      rw [List.mem_filter]
      exact ⟨h, by simp⟩
theorem shM_mem (hn : n ≤ 1000000) {key : List Int} {x : Int} : x ∈ shM K n sd key ↔ ∃ j, j < n ∧ K j = key ∧ x = (j : Int) := by
  rw [(shM_perm hn key).mem_iff]
  unfold memI
  rw [List.mem_map]
  constructor
  · rintro ⟨j, hj, rfl⟩
    rw [List.mem_filter] at hj
    exact ⟨j, List.mem_range.1 hj.1, by simpa using hj.2, rfl⟩
  · rintro ⟨j, hj, e, rfl⟩
    exact ⟨j, List.mem_filter.2 ⟨List.mem_range.2 hj, by simpa using e⟩, rfl⟩
theorem memI_nodup (key : List Int) : (memI K n key).Nodup := by
  unfold memI
  rw [List.Nodup, List.pairwise_map]
  refine (List.nodup_range.sublist List.filter_sublist).imp ?_
  intro a b hab e
  exact hab (Int.ofNat.inj e)
theorem ordL_nodup (hn : n ≤ 1000000) : (ordL K n sd).Nodup := by
  unfold ordL
  rw [List.flatMap_def, List.Nodup, List.pairwise_flatten]
  refine ⟨?_, ?_⟩
  · intro l hl
    obtain ⟨key, hb, rfl⟩ := List.mem_map.1 hl
    exact (shM_perm hn key).nodup_iff.2 (memI_nodup key)
  · rw [List.pairwise_map]
    refine (ordK_nodup hn).imp ?_
    intro a b hab x hx y hy e
    subst e
    obtain ⟨i, -, e1, e2⟩ := (shM_mem hn).1 hx
    obtain ⟨j, -, e3, e4⟩ := (shM_mem hn).1 hy
    have : i = j := by omega
    subst this
    exact hab (e1.symm.trans e3)
theorem ordL_mem (hn : n ≤ 1000000) {x : Int} : x ∈ ordL K n sd ↔ ∃ j : Nat, j < n ∧ x = (j : Int) := by
  unfold ordL
  rw [List.mem_flatMap]
  constructor
  · rintro ⟨key, -, h⟩
    obtain ⟨j, hj, -, e⟩ := (shM_mem hn).1 h
    exact ⟨j, hj, e⟩
  · rintro ⟨j, hj, e⟩
    exact ⟨K j, (ordK_mem hn).2 ((mem_ddK K _ n).2 ⟨j, hj, rfl⟩), (shM_mem hn).2 ⟨j, hj, rfl, e⟩⟩
theorem rngI_mem {x : Int} : x ∈ rngI n ↔ ∃ j : Nat, j < n ∧ x = (j : Int) := by
  unfold rngI fl
  rw [List.mem_map]
  constructor
  · rintro ⟨j, hj, rfl⟩; exact ⟨j, List.mem_range.1 hj, rfl⟩
  · rintro ⟨j, hj, rfl⟩; exact ⟨j, List.mem_range.2 hj, rfl⟩
theorem rngI_nodup : (rngI n).Nodup := by
  unfold rngI fl
  rw [List.Nodup, List.pairwise_map]
  refine List.nodup_range.imp ?_
  intro a b hab e
  exact hab (Int.ofNat.inj e)
/-- THE ORDER HAS EACH NUMBER ONCE. -/
theorem ordL_perm (hn : n ≤ 1000000) : (ordL K n sd).Perm (rngI n) := by
  rw [List.perm_ext_iff_of_nodup (ordL_nodup hn) rngI_nodup]
  intro x
  rw [ordL_mem hn, rngI_mem]
theorem ordL_len (hn : n ≤ 1000000) : (ordL K n sd).length = n := by rw [(ordL_perm hn).length_eq, rngI_len]
theorem ordL_at (hn : n ≤ 1000000) {k : Nat} (hk : k < n) : ∃ i : Nat, i < n ∧ nth (ordL K n sd) k = (i : Int) := by
  have : nth (ordL K n sd) k ∈ ordL K n sd := by
    rw [nth_eq _ _ (by rw [ordL_len hn]; exact hk)]; exact List.getElem_mem _
  exact (ordL_mem hn).1 this
end
/-- A new book's points: those that the first k places of the order tell of are made. -/
def ptsTo (ss : List Se) (ord : List Int) : Nat → List Pt
  | 0 => List.replicate ss.length ptZ
  | k + 1 => (ptsTo ss ord k).set (nth ord k).toNat ⟨(eth ss (nth ord k).toNat).blk, (k : Int), 0, ⟨#[]⟩⟩
theorem ptsTo_len (ss : List Se) (ord : List Int) : ∀ k, (ptsTo ss ord k).length = ss.length
  | 0 => List.length_replicate
  | k + 1 => by rw [ptsTo, List.length_set]; exact ptsTo_len ss ord k
set_option maxRecDepth 100000 in
set_option maxHeartbeats 4000000 in
theorem np_law {n gb gp cp sb so sc x k : Nat} {bl : Int} {wr : World} {R : World → Prop} (hi0 : (0 : Int) ≤ (x : Int)) (hi1 : (x : Int) < (n : Int)) (hb0 : ∀ W, Ext wr W → W.cell? ⟨gb, 0, none⟩ = some (.slice (some ⟨gp, 0, none⟩) n cp)) (hd1 : ∀ W, Ext wr W → W.cell? ⟨sb, so + x * 2 + 1, none⟩ = some (.int .i64 bl)) (HTH : Hid (∀ W, Ext wr W → W.there gp (x * 4) 4)) (HS : Hid (∀ W, Ext wr W → R (W.setCells gp (x * 4) [.int .i64 bl, .int .i64 (k : Int), .int .u8 0, .string ⟨#[]⟩]))) {Q : Exit → Act → World → Prop} (aZ : Act) (hsz : aZ.tmps.size = 52) (o1 : aZ.tmps[1]?.getD undef = .slice (some ⟨sb, so, none⟩) n sc) (o9 : aZ.tmps[9]?.getD undef = .pointer (some ⟨gb, 0, none⟩)) (o10 : aZ.tmps[10]?.getD undef = .int .i64 (k : Int)) (o11 : aZ.tmps[11]?.getD undef = .int .i64 (x : Int))
    (hend : ∀ (vs : Nat → Value) (w9 : World) (ls9 : Nat → Bool), (∀ j : Nat, j < 14 → ls9 j = true) → ((ls9 13 = false → Ext wr w9) ∧ (ls9 13 = true → R w9)) → (vs 0 = .pointer (some ⟨gb, 0, none⟩)) → (vs 1 = .pointer (some ⟨gb, 0, none⟩)) → (vs 2 = .pointer (some ⟨gb, 0, none⟩)) → (vs 3 = .slice (some ⟨gp, 0, none⟩) n cp) → (vs 4 = .int .i64 (x : Int)) → (vs 5 = .slice (some ⟨sb, so, none⟩) n sc) → (vs 6 = .int .i64 (x : Int)) → (vs 7 = .pointer (some ⟨sb, so + x * 2, none⟩)) → (vs 8 = .pointer (some ⟨sb, so + x * 2 + 1, none⟩)) → (vs 9 = .int .i64 bl) → (vs 10 = .int .i64 (k : Int)) → (vs 11 = .agg #[.int .i64 bl, .int .i64 (k : Int), .int .u8 0, .string ⟨#[]⟩]) → (vs 12 = .pointer (some ⟨gp, x * 4, none⟩)) → Q .normal (((((((((((((aZ.put (some 37) (vs 0)).put (some 38) (vs 1)).put (some 39) (vs 2)).put (some 40) (vs 3)).put (some 41) (vs 4)).put (some 42) (vs 5)).put (some 43) (vs 6)).put (some 44) (vs 7)).put (some 45) (vs 8)).put (some 46) (vs 9)).put (some 47) (vs 10)).put (some 48) (vs 11)).put (some 49) (vs 12)) w9) : (regOf Tryz.f52 8).wp Tryz.prog Q aZ wr := by
  conv => arg 2; whnf
  refine wp_region_said3 (fun i v wz => match i with
    | 0 => v = .pointer (some ⟨gb, 0, none⟩)
    | 1 => v = .pointer (some ⟨gb, 0, none⟩)
    | 2 => v = .pointer (some ⟨gb, 0, none⟩)
    | 3 => v = .slice (some ⟨gp, 0, none⟩) n cp
    | 4 => v = .int .i64 (x : Int)
    | 5 => v = .slice (some ⟨sb, so, none⟩) n sc
    | 6 => v = .int .i64 (x : Int)
    | 7 => v = .pointer (some ⟨sb, so + x * 2, none⟩)
    | 8 => v = .pointer (some ⟨sb, so + x * 2 + 1, none⟩)
    | 9 => v = .int .i64 bl
    | 10 => v = .int .i64 (k : Int)
    | 11 => v = .agg #[.int .i64 bl, .int .i64 (k : Int), .int .u8 0, .string ⟨#[]⟩]
    | 12 => v = .pointer (some ⟨gp, x * 4, none⟩)
    | _ => True) (fun ls vs wz => (ls 13 = false → Ext wr wz) ∧ (ls 13 = true → R wz)) (by kernel_rfl) (by kernel_rfl) (by rw [hsz]; kernel_rfl) ?_ ?_ ?_
  · exact ⟨fun _ => (Ext.refl _).drew, fun e => (by cases e)⟩
  · refine ⟨?_, ?_, ?_, ?_, ?_, ?_, ?_, ?_, ?_, ?_, ?_, ?_, ?_, ?_, trivial⟩
    · intro ls vs a w1 hi hJ hold hdep hdon hcl K hK
      have q9 : a.tmps[9]?.getD undef = .pointer (some ⟨gb, 0, none⟩) := (hold 9 (by kernel_rfl)).trans o9
      rw [if_pos (by rfl)]
      clear hold hdep hend hdon hcl o1 o9 o10 o11
      have HJ := Lib.hid hJ
      clear hJ
      go_simp
      exact hK _ _ (fun _ _ _ h => h) HJ.out rfl
    · intro ls vs a w1 hi hJ hold hdep hdon hcl K hK
      have q37 : a.tmps[37]?.getD undef = .pointer (some ⟨gb, 0, none⟩) := (hdep 0 37 (by kernel_rfl) (by kernel_rfl)).2.1.trans (hdep 0 37 (by kernel_rfl) (by kernel_rfl)).2.2
      rw [if_pos (by rfl)]
      clear hold hdep hend hdon hcl o1 o9 o10 o11
      have HJ := Lib.hid hJ
      clear hJ
      go_simp
      exact hK _ _ (fun _ _ _ h => h) HJ.out rfl
    · intro ls vs a w1 hi hJ hold hdep hdon hcl K hK
      have q38 : a.tmps[38]?.getD undef = .pointer (some ⟨gb, 0, none⟩) := (hdep 1 38 (by kernel_rfl) (by kernel_rfl)).2.1.trans (hdep 1 38 (by kernel_rfl) (by kernel_rfl)).2.2
      rw [if_pos (by rfl)]
      clear hold hdep hend hdon hcl o1 o9 o10 o11
      have HJ := Lib.hid hJ
      clear hJ
      go_simp
      exact hK _ _ (fun _ _ _ h => h) HJ.out rfl
    · intro ls vs a w1 hi hJ hold hdep hdon hcl K hK
      have q39 : a.tmps[39]?.getD undef = .pointer (some ⟨gb, 0, none⟩) := (hdep 2 39 (by kernel_rfl) (by kernel_rfl)).2.1.trans (hdep 2 39 (by kernel_rfl) (by kernel_rfl)).2.2
      have hn13 : ls 13 = false := by
        cases e : ls 13 with
        | false => rfl
        | true =>
          replace e := hcl 13 3 e (by kernel_rfl)
          rw [show ls 3 = false from hi] at e
          cases e
      rw [if_pos (by rfl)]
      clear hold hdep hend hdon hcl o1 o9 o10 o11
      have HJ := Lib.hid hJ
      clear hJ
      have hx := HJ.out.1 hn13
      go_simp
      exact hK _ _ (fun _ _ _ h => h) HJ.out rfl
    · intro ls vs a w1 hi hJ hold hdep hdon hcl K hK
      have q11 : a.tmps[11]?.getD undef = .int .i64 (x : Int) := (hold 11 (by kernel_rfl)).trans o11
      rw [if_pos (by rfl)]
      clear hold hdep hend hdon hcl o1 o9 o10 o11
      have HJ := Lib.hid hJ
      clear hJ
      go_simp
      exact hK _ _ (fun _ _ _ h => h) HJ.out rfl
    · intro ls vs a w1 hi hJ hold hdep hdon hcl K hK
      have q1 : a.tmps[1]?.getD undef = .slice (some ⟨sb, so, none⟩) n sc := (hold 1 (by kernel_rfl)).trans o1
      rw [if_pos (by rfl)]
      clear hold hdep hend hdon hcl o1 o9 o10 o11
      have HJ := Lib.hid hJ
      clear hJ
      go_simp
      exact hK _ _ (fun _ _ _ h => h) HJ.out rfl
    · intro ls vs a w1 hi hJ hold hdep hdon hcl K hK
      have q11 : a.tmps[11]?.getD undef = .int .i64 (x : Int) := (hold 11 (by kernel_rfl)).trans o11
      rw [if_pos (by rfl)]
      clear hold hdep hend hdon hcl o1 o9 o10 o11
      have HJ := Lib.hid hJ
      clear hJ
      go_simp
      exact hK _ _ (fun _ _ _ h => h) HJ.out rfl
    · intro ls vs a w1 hi hJ hold hdep hdon hcl K hK
      have q42 : a.tmps[42]?.getD undef = .slice (some ⟨sb, so, none⟩) n sc := (hdep 5 42 (by kernel_rfl) (by kernel_rfl)).2.1.trans (hdep 5 42 (by kernel_rfl) (by kernel_rfl)).2.2
      have q43 : a.tmps[43]?.getD undef = .int .i64 (x : Int) := (hdep 6 43 (by kernel_rfl) (by kernel_rfl)).2.1.trans (hdep 6 43 (by kernel_rfl) (by kernel_rfl)).2.2
      rw [if_pos (by rfl)]
      clear hold hdep hend hdon hcl o1 o9 o10 o11
      have HJ := Lib.hid hJ
      clear hJ
      go_simp
      exact hK _ _ (fun _ _ _ h => h) HJ.out rfl
    · intro ls vs a w1 hi hJ hold hdep hdon hcl K hK
      have q44 : a.tmps[44]?.getD undef = .pointer (some ⟨sb, so + x * 2, none⟩) := (hdep 7 44 (by kernel_rfl) (by kernel_rfl)).2.1.trans (hdep 7 44 (by kernel_rfl) (by kernel_rfl)).2.2
      rw [if_pos (by rfl)]
      clear hold hdep hend hdon hcl o1 o9 o10 o11
      have HJ := Lib.hid hJ
      clear hJ
      go_simp
      exact hK _ _ (fun _ _ _ h => h) HJ.out rfl
    · intro ls vs a w1 hi hJ hold hdep hdon hcl K hK
      have q45 : a.tmps[45]?.getD undef = .pointer (some ⟨sb, so + x * 2 + 1, none⟩) := (hdep 8 45 (by kernel_rfl) (by kernel_rfl)).2.1.trans (hdep 8 45 (by kernel_rfl) (by kernel_rfl)).2.2
      have hn13 : ls 13 = false := by
        cases e : ls 13 with
        | false => rfl
        | true =>
          replace e := hcl 13 9 e (by kernel_rfl)
          rw [show ls 9 = false from hi] at e
          cases e
      rw [if_pos (by rfl)]
      clear hold hdep hend hdon hcl o1 o9 o10 o11
      have HJ := Lib.hid hJ
      clear hJ
      have hx := HJ.out.1 hn13
      go_simp
      exact hK _ _ (fun _ _ _ h => h) HJ.out rfl
    · intro ls vs a w1 hi hJ hold hdep hdon hcl K hK
      have q10 : a.tmps[10]?.getD undef = .int .i64 (k : Int) := (hold 10 (by kernel_rfl)).trans o10
      rw [if_pos (by rfl)]
      clear hold hdep hend hdon hcl o1 o9 o10 o11
      have HJ := Lib.hid hJ
      clear hJ
      go_simp
      exact hK _ _ (fun _ _ _ h => h) HJ.out rfl
    · intro ls vs a w1 hi hJ hold hdep hdon hcl K hK
      have q46 : a.tmps[46]?.getD undef = .int .i64 bl := (hdep 9 46 (by kernel_rfl) (by kernel_rfl)).2.1.trans (hdep 9 46 (by kernel_rfl) (by kernel_rfl)).2.2
      have q47 : a.tmps[47]?.getD undef = .int .i64 (k : Int) := (hdep 10 47 (by kernel_rfl) (by kernel_rfl)).2.1.trans (hdep 10 47 (by kernel_rfl) (by kernel_rfl)).2.2
      rw [if_pos (by rfl)]
      clear hold hdep hend hdon hcl o1 o9 o10 o11
      have HJ := Lib.hid hJ
      clear hJ
      go_simp
      exact hK _ _ (fun _ _ _ h => h) HJ.out rfl
    · intro ls vs a w1 hi hJ hold hdep hdon hcl K hK
      have q40 : a.tmps[40]?.getD undef = .slice (some ⟨gp, 0, none⟩) n cp := (hdep 3 40 (by kernel_rfl) (by kernel_rfl)).2.1.trans (hdep 3 40 (by kernel_rfl) (by kernel_rfl)).2.2
      have q41 : a.tmps[41]?.getD undef = .int .i64 (x : Int) := (hdep 4 41 (by kernel_rfl) (by kernel_rfl)).2.1.trans (hdep 4 41 (by kernel_rfl) (by kernel_rfl)).2.2
      rw [if_pos (by rfl)]
      clear hold hdep hend hdon hcl o1 o9 o10 o11
      have HJ := Lib.hid hJ
      clear hJ
      go_simp
      exact hK _ _ (fun _ _ _ h => h) HJ.out rfl
    · intro ls vs a w1 hi hJ hold hdep hdon hcl K hK
      have q48 : a.tmps[48]?.getD undef = .agg #[.int .i64 bl, .int .i64 (k : Int), .int .u8 0, .string ⟨#[]⟩] := (hdep 11 48 (by kernel_rfl) (by kernel_rfl)).2.1.trans (hdep 11 48 (by kernel_rfl) (by kernel_rfl)).2.2
      have q49 : a.tmps[49]?.getD undef = .pointer (some ⟨gp, x * 4, none⟩) := (hdep 12 49 (by kernel_rfl) (by kernel_rfl)).2.1.trans (hdep 12 49 (by kernel_rfl) (by kernel_rfl)).2.2
      clear hold hdep hend hdon o1 o9 o10 o11
      have HJ := Lib.hid hJ
      clear hJ
      obtain ⟨j1, j2⟩ := HJ.out
      have hx := j1 hi
      rw [if_pos (by rfl)]
      refine wp_store_mid 157 (.tmp 49) (.tmp 48) (by rfl) gp (x * 4) #[.int .i64 bl, .int .i64 (k : Int), .int .u8 0, .string ⟨#[]⟩] (by simpa [Act.eval, Array.getD_eq_getD_getElem?] using q49) (by simpa [Act.eval, Array.getD_eq_getD_getElem?] using q48) (HTH.out w1 hx) (by obtain ⟨i0, hi0, -, hz1, -⟩ := info_parts info157; rw [hi0]; simp [hz1]) (all_oneCell_toArray (ptC_one ⟨bl, (k : Int), 0, ⟨#[]⟩⟩)) ?_
      exact hK undef _ (fun _ _ _ h => h) ⟨fun e => (by simp at e), fun _ => HS.out w1 hx⟩ trivial
  · intro vs w9 ls9 hl9 hJ9 hφ
    have e0 := hφ 0 (by kernel_rfl)
    have e1 := hφ 1 (by kernel_rfl)
    have e2 := hφ 2 (by kernel_rfl)
    have e3 := hφ 3 (by kernel_rfl)
    have e4 := hφ 4 (by kernel_rfl)
    have e5 := hφ 5 (by kernel_rfl)
    have e6 := hφ 6 (by kernel_rfl)
    have e7 := hφ 7 (by kernel_rfl)
    have e8 := hφ 8 (by kernel_rfl)
    have e9 := hφ 9 (by kernel_rfl)
    have e10 := hφ 10 (by kernel_rfl)
    have e11 := hφ 11 (by kernel_rfl)
    have e12 := hφ 12 (by kernel_rfl)
    have hq := hend vs w9 ls9 hl9 hJ9 e0 e1 e2 e3 e4 e5 e6 e7 e8 e9 e10 e11 e12
    simp only [Act.put] at hq
    simp only [putAll, Act.put]
    exact hq
set_option maxRecDepth 100000 in
set_option maxHeartbeats 2000000 in
theorem newBook_no (P : Pw) (a : Option Addr) (ss : List Se) (sc : Nat) (sd : Int) (w : World) (hp : PlanAt w P) (hb : PlanB P) (hs : SetsAt w a ss) (hn : ss.length ≤ 9223372036854775807) (hl : ∀ i, i < ss.length → (eth ss i).lv.xs.length ≤ 9223372036854775807) (v : Int) (hv : checkE P ss = v) (h0 : v ≠ 0) :
    Calls Tryz.prog 52 #[planV P, .slice a ss.length sc, .int .u64 sd] w (Ret (.tuple #[.pointer none, .int .i64 v]) w) := by
  have hck := fun W (e : Ext w W) => check_any P a ss sc W (hp.ext e) hb (hs.ext e) hn hl
  rw [hv] at hck
  obtain ⟨fs, fa, fc, fo, ga, gc⟩ := P
  have HCK := Lib.hid hck
  clear hck hp hb hs hl hv
  go_enter Tryz.func52, Tryz.ntmps52
  go_wp2_with (fail)
  generalize hw1 : World.alloc _ _ = w1
  obtain ⟨he, o1, -⟩ := alloc1 hw1
  obtain ⟨b0, b1⟩ := obj_cells2 o1
  have E1 := Ext.refl w1
  clear hw1 o1
  have HE := Lib.hid he
  clear he
  have hv0 : (v != 0) = true := by simpa using h0
  go_wp2_with (go_at_call 69; (with_reducible refine (HCK.out _ HE.out).mono ?_); rintro e w2 ⟨rfl, he2⟩)
  go_ret2
  exact ⟨rfl, HE.out.trans he2⟩
/-- The points of a new book. -/
def newPts (P : Pw) (ss : List Se) (sd : Int) : List Pt := ptsTo ss (ordS P ss sd) ss.length
set_option maxRecDepth 100000 in
set_option maxHeartbeats 4000000 in
theorem newBook_ok (P : Pw) (a : Option Addr) (ss : List Se) (sc : Nat) (sd : Int) (w : World) (hp : PlanAt w P) (hb : PlanB P) (hs : SetsAt w a ss) (hl : ∀ i, i < ss.length → (eth ss i).lv.xs.length ≤ 9223372036854775807) (hv : checkE P ss = 0) (hsd : 0 ≤ sd ∧ sd < 18446744073709551616) :
    Calls Tryz.prog 52 #[planV P, .slice a ss.length sc, .int .u64 sd] w (fun e w' => ∃ gb V2 V6, e = .returned (.tuple #[.pointer (some ⟨gb, 0, none⟩), .int .i64 0]) ∧ Ext w w' ∧ RowsAt w' w.heap.size [rwB gb V2 V6, rwP V2 (newPts P ss sd), rwI V6 (ordS P ss sd)]) := by
  have hn := (checkE_ok hv).2.1
  have hck := fun W (e : Ext w W) => check_any P a ss sc W (hp.ext e) hb (hs.ext e) (by omega) hl
  have hor := fun W (e : Ext w W) => order_any P a ss sc sd W (hp.ext e) hb (hs.ext e) hn hv hsd
  rw [hv] at hck
  have hLN : (ordS P ss sd).length = ss.length := ordL_len (by omega)
  have hLA : ∀ k, k < ss.length → ∃ i : Nat, i < ss.length ∧ nth (ordS P ss sd) k = (i : Int) := fun k hk => ordL_at (by omega) hk
  unfold newPts
  obtain ⟨L, hL⟩ : ∃ L, L = ordS P ss sd := ⟨_, rfl⟩
  rw [show ordL (fun i => gL P.fs (eth ss i)) ss.length sd = L from hL.symm] at hor
  rw [← hL] at hLN hLA ⊢
  obtain ⟨fs, fa, fc, fo, ga, gc⟩ := P
  have HCK := Lib.hid hck; have HOR := Lib.hid hor; have HLN := Lib.hid hLN; have HLA := Lib.hid hLA; have HSE := Lib.hid hs
  obtain ⟨n, hnn⟩ : ∃ n, n = ss.length := ⟨_, rfl⟩
  have HNN := Lib.hid hnn
  rw [← hnn] at hn HLN HLA HCK HOR ⊢
  clear hck hor hp hb hs hl hv hL hLN hLA hnn
  go_enter Tryz.func52, Tryz.ntmps52
  go_wp2_with (fail)
  generalize hw1 : World.alloc _ _ = w1
  obtain ⟨he, o1, -⟩ := alloc1 hw1
  obtain ⟨b0, b1⟩ := obj_cells2 o1
  have E1 := Ext.refl w1
  clear hw1 o1
  have HE := Lib.hid he
  clear he
  go_upto_region 4 with (go_at_call 69; (with_reducible refine (HCK.out _ HE.out).mono ?_); rintro e w2 ⟨rfl, he2⟩)
  obtain ⟨pb, hpb⟩ : ∃ pb, pb = w.heap.size := ⟨_, rfl⟩
  rw [← hpb] at b0 b1 ⊢
  have p0 := fun W (e : Ext w2 W) => b0 W (he2.trans e)
  have p1 := fun W (e : Ext w2 W) => b1 W (he2.trans e)
  have HE2 := Lib.hid (HE.out.trans he2)
  have HMK := Lib.hid (run_madeP n (by omega))
  have HMF : Hid (∀ W, Ext w2 W → ∀ L, RowsAt W w2.heap.size L → Ext W (madeP W n) ∧ RowsAt (madeP W n) w2.heap.size (rwP (.slice (some ⟨W.heap.size, 0, none⟩) n n) (List.replicate n ptZ) :: L)) := fun W e L h => madeP_facts (by omega) e.size h
  have HCALL : Hid (∀ W, Ext w2 W → Calls Tryz.prog 93 #[.agg #[.slice fa fs.length fc, .slice ga fo.length gc], .slice a n sc, .int .u64 sd] W (RetI L W)) := fun W e => HOR.out W (HE2.out.trans e)
  clear b0 b1 E1 he2 HCK HOR hpb
  refine nb_law p0 p1 HMK HMF HCALL _ (by rfl) rfl rfl rfl ?_
  intro vs w9 ls9 hl9 hJ9 e0 e1 e2 e3 e4 e5 e6 e7 e8 e9
  simp only [Act.put, List.setIfInBounds_toArray, List.set_cons_zero, List.set_cons_succ]
  rw [e0, e1, e3, e4, e5]
  obtain ⟨j1, j2, -, -, j5, j6⟩ := hJ9
  obtain ⟨gp, hgp⟩ := j2 (hl9 2 (by omega))
  obtain ⟨gb, hgb, hrows⟩ := j5 (hl9 8 (by omega))
  rw [j6 (hl9 9 (by omega)), hgb]
  obtain ⟨oa, oc, ho⟩ := slice_row (hrows.own (rwI (vs 6) L) (by simp))
  have ho' : vs 6 = .slice oa n oc := by rw [← HLN.out]; exact ho
  rw [hgp, ho'] at hrows ⊢
  have HR9 : Hid (Ext w2 w9 ∧ RowsAt w9 w2.heap.size [rwB gb (.slice (some ⟨gp, 0, none⟩) n n) (.slice oa n oc), rwP (.slice (some ⟨gp, 0, none⟩) n n) (ptsTo ss L 0), rwI (.slice oa n oc) L]) := by
    refine ⟨j1, ?_⟩
    rw [ptsTo, ← HNN.out]; exact hrows
  generalize vs 7 = V7
  have hB : w9.heap[gb]? = some (.cells #[.slice (some ⟨gp, 0, none⟩) n n, .slice oa n oc] 155 (0, 0)) := row_block (sz := 2) (n := 1) (hrows.own _ (List.mem_cons_self))
  obtain ⟨c0, c1⟩ := obj_cells2 hB
  have E9 := Ext.refl w9
  clear j1 j2 j5 j6 hgp hgb hrows ho ho' hB e0 e1 e2 e3 e4 e5 e6 e7 e8 e9 hl9 p0 p1 HMK HMF HCALL
  go_wp2_with (fail)
  clear c0 c1 E9
  go_loopw [32] (fun i wr => ∃ k : Nat, k ≤ n ∧ i = .int .i64 k ∧ Hid (Ext w2 wr ∧ RowsAt wr w2.heap.size [rwB gb (.slice (some ⟨gp, 0, none⟩) n n) (.slice oa n oc), rwP (.slice (some ⟨gp, 0, none⟩) n n) (ptsTo ss L k), rwI (.slice oa n oc) L])) (fun i _ => n - (intOf i).toNat)
  case atStart => exact ⟨0, Nat.zero_le _, rfl, HR9⟩
  case round =>
    obtain ⟨k, hk, rfl, hh⟩ := hrel
    clear HR9
    by_cases hlt : k < n
    · obtain ⟨x, hx, hxe⟩ := HLA.out k hlt
      have hi := (OwnI.ints (show OwnI wr w2.heap.size (.slice oa n oc) L from hh.out.2.own (rwI (.slice oa n oc) L) (by simp))).1
      obtain ⟨xo, xp, rfl, d0⟩ := hi.at k (by rw [HLN.out]; exact hlt)
      rw [hxe] at d0
      obtain ⟨sb, so, rfl, s0, s1⟩ := set_at (HSE.out.ext (HE2.out.trans hh.out.1)).row x (by rw [← HNN.out]; exact hx)
      obtain ⟨bl, hbl⟩ : ∃ bl, bl = (eth ss x).blk := ⟨_, rfl⟩
      rw [← hbl] at s1
      have hB : wr.heap[gb]? = some (.cells #[.slice (some ⟨gp, 0, none⟩) n n, .slice (some ⟨xo, xp, none⟩) n oc] 155 (0, 0)) := row_block (sz := 2) (n := 1) (hh.out.2.own _ (List.mem_cons_self))
      have hb0 := (obj_cells2 hB).1
      have hi0 : (0 : Int) ≤ (x : Int) := by omega
      have hi1 : (x : Int) < (n : Int) := by omega
      have hown : OwnP wr w2.heap.size (.slice (some ⟨gp, 0, none⟩) n n) (ptsTo ss L k) := hh.out.2.own (rwP (.slice (some ⟨gp, 0, none⟩) n n) (ptsTo ss L k)) (by simp)
      have hxl : x < (ptsTo ss L k).length := by rw [ptsTo_len, ← HNN.out]; exact hx
      have HTH : Hid (∀ W, Ext wr W → W.there gp (x * 4) 4) := fun W e => (hown.ext e).there ptC_len x hxl
      have hgp2 : w2.heap.size ≤ gp := (hown.lt gp rfl).1
      obtain ⟨R, hR⟩ : ∃ R : World → Prop, R = fun W => Ext w2 W ∧ RowsAt W w2.heap.size [rwB gb (.slice (some ⟨gp, 0, none⟩) n n) (.slice (some ⟨xo, xp, none⟩) n oc), rwP (.slice (some ⟨gp, 0, none⟩) n n) (ptsTo ss L (k + 1)), rwI (.slice (some ⟨xo, xp, none⟩) n oc) L] := ⟨_, rfl⟩
      have HS : Hid (∀ W, Ext wr W → R (W.setCells gp (x * 4) [.int .i64 bl, .int .i64 (k : Int), .int .u8 0, .string ⟨#[]⟩])) := fun W e => by
        rw [hR]
        refine ⟨ext_setCells hgp2 _ _ _ (hh.out.1.trans e), ?_⟩
        have e1 : ptsTo ss L (k + 1) = (ptsTo ss L k).set x ⟨bl, (k : Int), 0, ⟨#[]⟩⟩ := by
          rw [ptsTo, hxe, Int.toNat_natCast, hbl]
        rw [e1]
        have hso := (hown.ext e).setRow ptC_len x hxl ⟨bl, (k : Int), 0, ⟨#[]⟩⟩
        have hxx : ExtX gp W (W.setCells gp (x * 4) (ptC ⟨bl, (k : Int), 0, ⟨#[]⟩⟩)) := extX_setCells _ _ (ExtX.refl gp W) rfl
        exact RowsAt.wrMid (w' := W.setCells gp (x * 4) (ptC ⟨bl, (k : Int), 0, ⟨#[]⟩⟩)) (L1 := [rwB gb (.slice (some ⟨gp, 0, none⟩) n n) (.slice (some ⟨xo, xp, none⟩) n oc)]) (L2 := [rwI (.slice (some ⟨xo, xp, none⟩) n oc) L]) (r := rwP (.slice (some ⟨gp, 0, none⟩) n n) (ptsTo ss L k)) (r' := rwP (.slice (some ⟨gp, 0, none⟩) n n) ((ptsTo ss L k).set x ⟨bl, (k : Int), 0, ⟨#[]⟩⟩)) (hh.out.2.ext e) hxx rfl rfl hso
      have HR := Lib.hid hR
      have Er := Ext.refl wr
      clear hi hxe hB hown hxl hgp2 hR hbl hh s0
      go_upto_region 8 with fail
      clear d0 Er
      have hd1 := s1
      clear s1
      refine np_law hi0 hi1 hb0 hd1 HTH HS _ (by rfl) rfl rfl rfl rfl ?_
      intro vs w9 ls9 hl9 hJ9 e0 e1 e2 e3 e4 e5 e6 e7 e8 e9 e10 e11 e12
      simp only [Act.put, List.setIfInBounds_toArray, List.set_cons_zero, List.set_cons_succ]
      rw [e0, e1, e2, e3, e4, e5, e6, e7, e8, e9, e10, e11, e12]
      obtain ⟨-, j2⟩ := hJ9
      have hRR := j2 (hl9 13 (by omega))
      rw [HR.out] at hRR
      have HRR := Lib.hid hRR
      clear hRR j2 HR HS HTH hb0 hd1 e0 e1 e2 e3 e4 e5 e6 e7 e8 e9 e10 e11 e12 hl9
      go_wp2_with (fail)
      go_roundw
      case rel => exact ⟨k + 1, by omega, by go_num, HRR⟩
      case measure => first | (simp [intOf]; done) | (simp [intOf]; omega)
    · obtain rfl : k = n := by omega
      go_wp2_with (fail)
      go_ret2
      exact ⟨gb, _, _, rfl, HE2.out.trans hh.out.1, hh.out.2.down HE2.out.size⟩
end Go.Proofs.YtplbofhgmflnlaaGreat
