/-
  Order's second pass, in plain lists, and its steps on the memory.
-/
import Derived.Test.YtplbofhgmflnlaaGreatM18
set_option linter.unusedVariables false
set_option linter.unusedSimpArgs false
namespace Go.Proofs.YtplbofhgmflnlaaGreat
open Go.RowKit Go.Maps
section
variable {α : Type} [Inhabited α]
theorem swp_perm (l : List α) (i j : Nat) (hi : i < l.length) (hj : j < l.length) : (swp l i j).Perm l := by
  unfold swp
  have e1 : l.getD j default = l[j] := by simp [hj]
  have e2 : l.getD i default = l[i] := by simp [hi]
  rw [e1, e2]
  exact List.set_set_perm hi hj
theorem shufK_perm : ∀ (k : Nat) (s : Int) (l : List α), k ≤ l.length → k ≤ 1000000 → (shufK k s l).Perm l
  | 0, _, _, _, _ => .refl _
  | 1, _, _, _, _ => .refl _
  | k + 2, s, l, h, h6 => by
    simp only [shufK]
    have hb := drw_bd (lcg s) ((k + 2 : Nat) : Int) (lcg_bd s).1 (lcg_bd s).2 (by omega) (by omega)
    exact (shufK_perm (k + 1) _ _ (by rw [swp_len]; omega) (by omega)).trans (swp_perm _ _ _ (by omega) (by omega))
theorem shufL_perm (s : Int) (l : List α) (h : l.length ≤ 1000000) : (shufL s l).Perm l := shufK_perm _ _ _ (Nat.le_refl _) h
theorem shufL_len (s : Int) (l : List α) (h : l.length ≤ 1000000) : (shufL s l).length = l.length := (shufL_perm s l h).length_eq
end
/-- The seed of a block's groups, and of a group's members. -/
def seedB (sd b : Int) : Int := IntKind.u64.wrap (sd + IntKind.u64.wrap (IntKind.u64.wrap b * 1000003))
def seedM (sd x : Int) : Int := IntKind.u64.wrap (IntKind.u64.wrap (sd + 1) + IntKind.u64.wrap (IntKind.u64.wrap x * 7919))
def shB (K : Nat → List Int) (n : Nat) (sd b : Int) : List (List Int) := shufL (seedB sd b) (kbI K n b)
def shM (K : Nat → List Int) (n : Nat) (sd : Int) (key : List Int) : List Int := shufL (seedM sd (nth (memI K n key) 0)) (memI K n key)
def sNs (K : Nat → List Int) (n : Nat) : List Int := srt (ddK (KB K) n)
def ordK (K : Nat → List Int) (n : Nat) (sd : Int) : List (List Int) := (sNs K n).flatMap (shB K n sd)
/-- Order's answer. -/
def ordL (K : Nat → List Int) (n : Nat) (sd : Int) : List Int := (ordK K n sd).flatMap (shM K n sd)
def mem2 (K : Nat → List Int) (n : Nat) (sd : Int) (D : List (List Int)) (key : List Int) : List Int := if key ∈ D then shM K n sd key else memI K n key
def kb2 (K : Nat → List Int) (n : Nat) (sd : Int) (E : List Int) (b : Int) : List (List Int) := if b ∈ E then shB K n sd b else kbI K n b
section
variable {K : Nat → List Int} {n : Nat} {sd : Int}
theorem srt_perm (xs : List Int) : (srt xs).Perm xs := List.mergeSort_perm _ _
theorem sNs_mem {b : Int} : b ∈ sNs K n ↔ b ∈ ddK (KB K) n := (srt_perm _).mem_iff
theorem sNs_nodup : (sNs K n).Nodup := (srt_perm _).nodup_iff.2 (nodup_ddK _ _)
theorem sNs_len : (sNs K n).length = (ddK (KB K) n).length := srt_len _
theorem shB_perm (hn : n ≤ 1000000) (b : Int) : (shB K n sd b).Perm (kbI K n b) := shufL_perm _ _ (Nat.le_trans (kbI_len K n b) hn)
theorem shM_perm (hn : n ≤ 1000000) (key : List Int) : (shM K n sd key).Perm (memI K n key) := shufL_perm _ _ (Nat.le_trans (memI_len K n key) hn)
theorem shB_mem (hn : n ≤ 1000000) {b : Int} {key : List Int} (h : key ∈ shB K n sd b) : key ∈ ddK K n ∧ nth key 0 = b := by
  have := (shB_perm hn b).mem_iff.1 h
  unfold kbI at this
  rw [List.mem_filter] at this
  exact ⟨this.1, by simpa using this.2⟩
theorem ordK_nodup (hn : n ≤ 1000000) : (ordK K n sd).Nodup := by
  unfold ordK
  rw [List.flatMap_def, List.Nodup, List.pairwise_flatten]
  refine ⟨?_, ?_⟩
  · intro l hl
    obtain ⟨b, hb, rfl⟩ := List.mem_map.1 hl
    exact (shB_perm hn b).nodup_iff.2 ((nodup_ddK K n).sublist List.filter_sublist)
  · rw [List.pairwise_map]
    refine sNs_nodup.imp ?_
    intro a b hab
    intro x hx y hy e
    subst e
    exact hab ((shB_mem hn hx).2.symm.trans (shB_mem hn hy).2)
theorem mem2_succ {D : List (List Int)} {key : List Int} (h : key ∉ D) : mem2 K n sd (D ++ [key]) = updF (mem2 K n sd D) key (shM K n sd key) := by
  funext x
  unfold mem2 updF
  by_cases e : x = key
  · subst e; simp
  · simp [e]
theorem kb2_succ {E : List Int} {b : Int} (h : b ∉ E) : kb2 K n sd (E ++ [b]) = updF (kb2 K n sd E) b (shB K n sd b) := by
  funext x
  unfold kb2 updF
  by_cases e : x = b
  · subst e; simp
  · simp [e]
theorem mem2_nil : mem2 K n sd [] = memI K n := by funext x; simp [mem2]
theorem kb2_nil : kb2 K n sd [] = kbI K n := by funext x; simp [kb2]
/-- The groups ahead of the j-th one of the k-th block. -/
def doneK (K : Nat → List Int) (n : Nat) (sd : Int) (k j : Nat) : List (List Int) := ((sNs K n).take k).flatMap (shB K n sd) ++ (shB K n sd (nth (sNs K n) k)).take j
theorem done_zero : doneK K n sd 0 0 = [] := by simp [doneK]
theorem done_next (k : Nat) (hk : k < (sNs K n).length) : doneK K n sd (k + 1) 0 = doneK K n sd k (shB K n sd (nth (sNs K n) k)).length := by
  unfold doneK
  rw [List.take_succ_eq_append_getElem hk, List.flatMap_append, nth_eq _ _ hk]
  simp
theorem done_succ (k j : Nat) (hj : j < (shB K n sd (nth (sNs K n) k)).length) : doneK K n sd k (j + 1) = doneK K n sd k j ++ [kth (shB K n sd (nth (sNs K n) k)) j] := by
  unfold doneK
  rw [List.take_succ_eq_append_getElem hj, kth_eq _ _ hj, List.append_assoc]
theorem done_all : doneK K n sd (sNs K n).length 0 = ordK K n sd := by
  unfold doneK ordK; simp
theorem done_new (hn : n ≤ 1000000) (k j : Nat) (hk : k < (sNs K n).length) (hj : j < (shB K n sd (nth (sNs K n) k)).length) : kth (shB K n sd (nth (sNs K n) k)) j ∉ doneK K n sd k j := by
  have h := ordK_nodup (K := K) (n := n) (sd := sd) hn
  have e : ordK K n sd = doneK K n sd k j ++ [kth (shB K n sd (nth (sNs K n) k)) j] ++ ((shB K n sd (nth (sNs K n) k)).drop (j + 1) ++ ((sNs K n).drop (k + 1)).flatMap (shB K n sd)) := by
    rw [← done_succ k j hj]
    unfold ordK doneK
    have e1 : sNs K n = (sNs K n).take k ++ nth (sNs K n) k :: (sNs K n).drop (k + 1) := by
      rw [nth_eq _ _ hk, ← List.drop_eq_getElem_cons hk, List.take_append_drop]
    conv => lhs; rw [e1]
    rw [List.flatMap_append, List.flatMap_cons]
    conv => lhs; rw [← List.take_append_drop (j + 1) (shB K n sd (nth (sNs K n) k))]
    simp only [List.append_assoc]
  rw [e, List.nodup_append, List.nodup_append] at h
  intro hm
  exact h.1.2.2 _ hm _ (by simp) rfl
theorem take_new (k : Nat) (hk : k < (sNs K n).length) : nth (sNs K n) k ∉ (sNs K n).take k := by
  have h := sNs_nodup (K := K) (n := n)
  have e1 : sNs K n = (sNs K n).take k ++ nth (sNs K n) k :: (sNs K n).drop (k + 1) := by
    rw [nth_eq _ _ hk, ← List.drop_eq_getElem_cons hk, List.take_append_drop]
  rw [e1, List.nodup_append] at h
  intro hm
  exact h.2.2 _ hm _ (by simp) rfl
end
theorem count_le {κ : Type} [BEq κ] [LawfulBEq κ] (x : κ) : ∀ D : List κ, D.Nodup → D.count x ≤ 1
  | [], _ => by simp
  | y :: D, h => by
    rw [List.nodup_cons] at h
    rw [List.count_cons]
    cases e : y == x
    · have := count_le x D h.2
      simpa using this
    · obtain rfl := eq_of_beq e
      rw [List.count_eq_zero_of_not_mem h.1]; simp
theorem sum_mem (K : Nat → List Int) (n : Nat) : ∀ D : List (List Int), (D.map fun key => (memI K (n + 1) key).length).sum = (D.map fun key => (memI K n key).length).sum + D.count (K n)
  | [] => by simp
  | y :: D => by
    have := sum_mem K n D
    simp only [List.map_cons, List.sum_cons, List.count_cons, this]
    rw [memI_succ]
    unfold updF
    by_cases e : y = K n
    · subst e; simp; omega
    · have e' : ¬ (y == K n) = true := by simpa using e
      simp [e]; omega
theorem sum_le (K : Nat → List Int) (D : List (List Int)) (h : D.Nodup) : ∀ n, (D.map fun key => (memI K n key).length).sum ≤ n
  | 0 => by
    have e : (fun key => (memI K 0 key).length) = fun _ => 0 := by funext key; simp [memI]
    rw [e, List.map_const', List.sum_replicate_nat]; simp
  | n + 1 => by
    have := sum_le K D h n
    have := count_le (K n) D h
    rw [sum_mem]; omega
theorem out_len (K : Nat → List Int) (n : Nat) (sd : Int) (hn : n ≤ 1000000) (D : List (List Int)) (h : D.Nodup) : (D.flatMap (shM K n sd)).length ≤ n := by
  have e : (D.flatMap (shM K n sd)).length = (D.map fun key => (memI K n key).length).sum := by
    rw [List.length_flatMap]
    congr 1
    exact List.map_congr_left fun key _ => (shM_perm hn key).length_eq
  rw [e]; exact sum_le K D h n
theorem done_nodup {K : Nat → List Int} {n : Nat} {sd : Int} (hn : n ≤ 1000000) (k j : Nat) (hk : k < (sNs K n).length) (hj : j ≤ (shB K n sd (nth (sNs K n) k)).length) : (doneK K n sd k j).Nodup := by
  have h := ordK_nodup (K := K) (n := n) (sd := sd) hn
  refine h.sublist ?_
  unfold ordK doneK
  have e1 : sNs K n = (sNs K n).take k ++ nth (sNs K n) k :: (sNs K n).drop (k + 1) := by
    rw [nth_eq _ _ hk, ← List.drop_eq_getElem_cons hk, List.take_append_drop]
  conv => rhs; rw [e1]
  rw [List.flatMap_append, List.flatMap_cons]
  exact List.Sublist.append (.refl _) ((List.take_sublist _ _).trans (List.sublist_append_left _ _))
/-! ### the memory -/
section
variable {w1 w : World} {b7 b8 : Nat} {gs : List (List Int × Value)} {bs : List (Int × Value)} {vn : Value} {ns : List Int} {mem : List Int → List Int} {kb : Int → List (List Int)} {X : List Rw}
theorem full_row {w : World} {B : Nat} {r : Rw} (h : r.at w B) (hn : r.n ≠ 0) : ∃ g c, r.v = .slice (some ⟨g, 0, none⟩) r.n c ∧ g < w.heap.size ∧ B ≤ g := by
  rcases h.2 with ⟨e1, e2⟩ | ⟨g, cap, cur, e1, hg, hh, -⟩
  · exact absurd e2 hn
  · exact ⟨g, cap, e1, lt_of_block hh, hg⟩
theorem GSt.at8 (h : GSt w1 w b7 b8 gs bs vn ns mem kb X) {b : Int} (hb : b ∈ bs.map Prod.fst) (hne : (kb b).length ≠ 0) : ∃ g c, (b, Value.slice (some ⟨g, 0, none⟩) (kb b).length c) ∈ bs := by
  obtain ⟨⟨b', v⟩, hg, rfl⟩ := List.mem_map.1 hb
  obtain ⟨g, c, e, -, -⟩ := full_row (h.row8 hg) hne
  exact ⟨g, c, by rw [← (show v = _ from e)]; exact hg⟩
theorem GSt.at7 (h : GSt w1 w b7 b8 gs bs vn ns mem kb X) {key : List Int} (hb : key ∈ gs.map Prod.fst) (hne : (mem key).length ≠ 0) : ∃ g c, (key, Value.slice (some ⟨g, 0, none⟩) (mem key).length c) ∈ gs := by
  obtain ⟨⟨b', v⟩, hg, rfl⟩ := List.mem_map.1 hb
  obtain ⟨g, c, e, -, -⟩ := full_row (h.row7 hg) hne
  exact ⟨g, c, by rw [← (show v = _ from e)]; exact hg⟩
theorem GSt.find8 (h : GSt w1 w b7 b8 gs bs vn ns mem kb X) {b : Int} {v : Value} (hb : (b, v) ∈ bs) (hw : wf64 b) : ∀ W, Ext w W → (Instr.lookup 188 (.map (some b8)) (.int .i64 b) false).run Tryz.prog W = .ok v W := fun W e => by
  have := (h.m8.ext e).look_yes keyed3 Tryz.underlying188 (key3 hw) (v := v) (List.mem_map.2 ⟨(b, v), hb, rfl⟩) false
  simpa using this
theorem GSt.find7 (h : GSt w1 w b7 b8 gs bs vn ns mem kb X) {key : List Int} {v : Value} (hb : (key, v) ∈ gs) (hl : key.length = 9) (hw : ∀ x ∈ key, wf64 x) : ∀ W, Ext w W → (Instr.lookup 187 (.map (some b7)) (grV key) false).run Tryz.prog W = .ok v W := fun W e => by
  have := (h.m7.ext e).look_yes keyed191 Tryz.underlying187 (key191 hl hw) (v := v) (List.mem_map.2 ⟨(key, v), hb, rfl⟩) false
  simpa using this
theorem GSt.sort (h : GSt w1 w b7 b8 gs bs vn ns mem kb X) (hn : ns.length ≤ 1000000) : Calls Tryz.prog 109 #[vn] w (fun e w' => e = .returned (.tuple #[]) ∧ GSt w1 w' b7 b8 gs bs vn (srt ns) mem kb X) := by
  rcases h.rows.mid.2 with ⟨e1, e2⟩ | ⟨g, cap, cur, e1, -⟩
  · have e1' : vn = .slice none 0 0 := e1
    have e3 : ns = [] := List.length_eq_zero_iff.1 e2
    rw [e1']
    refine (sort_none none 0 w).mono ?_
    rintro e w' ⟨rfl, rfl⟩
    subst e3
    refine ⟨rfl, ?_⟩
    rw [← e1']
    have : srt [] = [] := List.length_eq_zero_iff.1 (srt_len [])
    rw [this]; exact h
  · have e1' : vn = .slice (some ⟨g, 0, none⟩) ns.length cap := e1
    subst e1'
    refine (sort_ints w1.heap.size g cap ns w h.rows.mid hn).mono ?_
    rintro e w' ⟨rfl, hx, ho⟩
    refine ⟨rfl, Ws.wr h (r' := rwI (.slice (some ⟨g, 0, none⟩) ns.length cap) (srt ns)) hx rfl rfl ?_⟩
    exact ho
theorem GSt.shufG (h : GSt w1 w b7 b8 gs bs vn ns mem kb X) {b : Int} {g c m : Nat} (hb : (b, Value.slice (some ⟨g, 0, none⟩) m c) ∈ bs) (hm : (kb b).length = m) (hl : m ≤ 1000000) (s : Int) :
    Calls Tryz.prog 127 #[.int .u64 s, .slice (some ⟨g, 0, none⟩) m c] w (fun e w' => e = .returned (.tuple #[]) ∧ GSt w1 w' b7 b8 gs bs vn ns mem (updF kb b (shufL s (kb b))) X) := by
  have hnd := M8l_nodup h.m8.nodup
  obtain ⟨c1, c2, rfl⟩ := List.append_of_mem hb
  obtain ⟨n1, n2⟩ := nodup_split hnd
  have e : X ++ (rwI vn ns :: (G7 mem gs ++ G8 kb (c1 ++ (b, Value.slice (some ⟨g, 0, none⟩) m c) :: c2))) = (X ++ rwI vn ns :: (G7 mem gs ++ G8 kb c1)) ++ rwG (.slice (some ⟨g, 0, none⟩) m c) (kb b) :: G8 kb c2 := by simp [G8]
  have h' : Ws w1 w b7 b8 (M7l gs) (M8l (c1 ++ (b, Value.slice (some ⟨g, 0, none⟩) m c) :: c2)) ((X ++ rwI vn ns :: (G7 mem gs ++ G8 kb c1)) ++ rwG (.slice (some ⟨g, 0, none⟩) m c) (kb b) :: G8 kb c2) := by rw [← e]; exact h
  refine (shuffle_gr w1.heap.size g m c s (kb b) w hm hl h'.rows.mid (h'.rows.mid.lt g rfl).2).mono ?_
  rintro e w' ⟨rfl, hx, ho⟩
  refine ⟨rfl, ?_⟩
  have hlen : (shufK m s (kb b)).length = m := by rw [(shufK_perm m s (kb b) (by omega) hl).length_eq, hm]
  have h2 := Ws.wr h' (r' := rwG (.slice (some ⟨g, 0, none⟩) m c) (shufK m s (kb b))) hx rfl rfl ho
  have e2 : X ++ (rwI vn ns :: (G7 mem gs ++ G8 (updF kb b (shufL s (kb b))) (c1 ++ (b, Value.slice (some ⟨g, 0, none⟩) m c) :: c2))) = (X ++ rwI vn ns :: (G7 mem gs ++ G8 kb c1)) ++ rwG (.slice (some ⟨g, 0, none⟩) m c) (shufK m s (kb b)) :: G8 kb c2 := by
    rw [G8_app, G8_upd _ _ _ _ n1]
    have : G8 (updF kb b (shufL s (kb b))) ((b, Value.slice (some ⟨g, 0, none⟩) m c) :: c2) = rwG (.slice (some ⟨g, 0, none⟩) m c) (shufK m s (kb b)) :: G8 kb c2 := by
      have := G8_upd kb b (shufL s (kb b)) c2 n2
      unfold G8 at this ⊢
      rw [List.map_cons, this]
      simp [updF, shufL, hm]
    rw [this]; simp
  unfold GSt; rw [e2]; exact h2
theorem GSt.shufM (h : GSt w1 w b7 b8 gs bs vn ns mem kb X) {key : List Int} {g c m : Nat} (hb : (key, Value.slice (some ⟨g, 0, none⟩) m c) ∈ gs) (hm : (mem key).length = m) (hl : m ≤ 1000000) (s : Int) :
    Calls Tryz.prog 80 #[.int .u64 s, .slice (some ⟨g, 0, none⟩) m c] w (fun e w' => e = .returned (.tuple #[]) ∧ GSt w1 w' b7 b8 gs bs vn ns (updF mem key (shufL s (mem key))) kb X) := by
  have hnd := M7l_nodup h.m7.nodup
  obtain ⟨c1, c2, rfl⟩ := List.append_of_mem hb
  obtain ⟨n1, n2⟩ := nodup_split hnd
  have e : X ++ (rwI vn ns :: (G7 mem (c1 ++ (key, Value.slice (some ⟨g, 0, none⟩) m c) :: c2) ++ G8 kb bs)) = (X ++ rwI vn ns :: G7 mem c1) ++ rwI (.slice (some ⟨g, 0, none⟩) m c) (mem key) :: (G7 mem c2 ++ G8 kb bs) := by simp [G7]
  have h' : Ws w1 w b7 b8 (M7l (c1 ++ (key, Value.slice (some ⟨g, 0, none⟩) m c) :: c2)) (M8l bs) ((X ++ rwI vn ns :: G7 mem c1) ++ rwI (.slice (some ⟨g, 0, none⟩) m c) (mem key) :: (G7 mem c2 ++ G8 kb bs)) := by rw [← e]; exact h
  refine (shuffle_int w1.heap.size g m c s (mem key) w hm hl h'.rows.mid (h'.rows.mid.lt g rfl).2).mono ?_
  rintro e w' ⟨rfl, hx, ho⟩
  refine ⟨rfl, ?_⟩
  have h2 := Ws.wr h' (r' := rwI (.slice (some ⟨g, 0, none⟩) m c) (shufK m s (mem key))) hx rfl rfl ho
  have e2 : X ++ (rwI vn ns :: (G7 (updF mem key (shufL s (mem key))) (c1 ++ (key, Value.slice (some ⟨g, 0, none⟩) m c) :: c2) ++ G8 kb bs)) = (X ++ rwI vn ns :: G7 mem c1) ++ rwI (.slice (some ⟨g, 0, none⟩) m c) (shufK m s (mem key)) :: (G7 mem c2 ++ G8 kb bs) := by
    rw [G7_app, G7_upd _ _ _ _ n1]
    have : G7 (updF mem key (shufL s (mem key))) ((key, Value.slice (some ⟨g, 0, none⟩) m c) :: c2) = rwI (.slice (some ⟨g, 0, none⟩) m c) (shufK m s (mem key)) :: G7 mem c2 := by
      have := G7_upd mem key (shufL s (mem key)) c2 n2
      unfold G7 at this ⊢
      rw [List.map_cons, this]
      simp [updF, shufL, hm]
    rw [this]; simp
  unfold GSt; rw [e2]; exact h2
theorem GSt.appO {vo : Value} {out : List Int} (h : GSt w1 w b7 b8 gs bs vn ns mem kb [rwI vo out]) {key : List Int} {g c m : Nat} (hb : (key, Value.slice (some ⟨g, 0, none⟩) m c) ∈ gs) (hm : (mem key).length = m) (h0 : m ≠ 0) (hl : out.length + m ≤ 1000000) :
    ∃ v' w', (Builtin.append_ #[31, 31] 31 #[vo, .slice (some ⟨g, 0, none⟩) m c]).run Tryz.prog w = .ok v' w' ∧ GSt w1 w' b7 b8 gs bs vn ns mem kb [rwI v' (out ++ mem key)] := by
  have hi := (OwnI.ints (show OwnI w w1.heap.size (.slice (some ⟨g, 0, none⟩) m c) (mem key) from h.row7 hb)).1
  have h' : Ws w1 w b7 b8 (M7l gs) (M8l bs) ([] ++ rwI vo out :: (rwI vn ns :: (G7 mem gs ++ G8 kb bs))) := h
  obtain ⟨v', w', r1, r2, r3, r4⟩ := app_intsL w w1.heap.size 31 vo out (mem key) (some ⟨g, 0, none⟩) c h'.rows.mid hi (fun e => h0 (by rw [← hm, e]; rfl)) (by omega) h.ext.size
  rw [hm] at r1
  exact ⟨v', w', r1, Ws.app h' r3 (r' := rwI v' (out ++ mem key)) r2 r4⟩
end
end Go.Proofs.YtplbofhgmflnlaaGreat
