/-
  Walk: the law VaultApart.
-/
import Derived.Test.YtlahejakcgoheaaTB
import Derived.Test.YtlahejakcgoheaaQB
set_option linter.unusedVariables false
set_option linter.unusedSimpArgs false
namespace Go.Proofs.Ytlahejakcgoheaa
open Go.RowKit Go.Maps
/-- Two vaults, made since w0; none of them writes a block from B on. -/
def Two2 (w0 w : World) (b1 : Nat) (S1 : PV) (b2 : Nat) (S2 : PV) (B : Nat) : Prop :=
  ∃ F1 A1 F2 A2, VaultAt w b1 S1 F1 A1 ∧ VaultAt w b2 S2 F2 A2 ∧ (∀ k ∈ F1, k ∉ F2 ∧ k ∉ A2) ∧ (∀ k ∈ F2, k ∉ A1) ∧ Ext w0 w ∧
    (∀ k ∈ F1, w0.heap.size ≤ k ∧ k < B) ∧ (∀ k ∈ A1, w0.heap.size ≤ k) ∧ (∀ k ∈ F2, w0.heap.size ≤ k ∧ k < B) ∧ (∀ k ∈ A2, w0.heap.size ≤ k)
theorem Two.cap2 {w0 w : World} {b1 : Nat} {S1 : PV} {b2 : Nat} {S2 : PV} {B : Nat} (h : Two w0 w b1 S1 b2 S2 B) : Two2 w0 w b1 S1 b2 S2 w.heap.size := by
  obtain ⟨F1, A1, F2, A2, h1, h2, h3, h4, h5, h6, h7, h8, h9⟩ := h
  exact ⟨F1, A1, F2, A2, h1, h2, h3, h4, h5, fun k q => ⟨h6 k q, h1.lt.1 k q⟩, h7, fun k q => ⟨(h8 k q).1, h2.lt.1 k q⟩, h9⟩
theorem Two2.ext {w0 w w' : World} {b1 : Nat} {S1 : PV} {b2 : Nat} {S2 : PV} {B : Nat} (h : Two2 w0 w b1 S1 b2 S2 B) (e : Ext w w') : Two2 w0 w' b1 S1 b2 S2 B := by
  obtain ⟨F1, A1, F2, A2, h1, h2, h3, h4, h5, h6⟩ := h
  exact ⟨F1, A1, F2, A2, h1.ext e, h2.ext e, h3, h4, h5.trans e, h6⟩
theorem play_two1b {w0 w : World} {b1 : Nat} {S1 : PV} {b2 : Nat} {S2 : PV} {B : Nat} (h : Two2 w0 w b1 S1 b2 S2 B) (hg : Good S1) (o : Op) (ho : OpOk o) :
    Calls Try.prog 22 #[ptr b1, opval o] w (fun e w' => ∃ a c, e = .returned (resval (playR S1 o) a c) ∧ Two w0 w' b1 (playS S1 o) b2 S2 B ∧ OwnE w' w.heap.size (.slice a (playR S1 o).list.length c) (playR S1 o).list ∧ Kept B w w') := by
  obtain ⟨F1, A1, F2, A2, h1, h2, h3, h4, h5, h6, h7, h8, h9⟩ := h
  refine (play_any b1 S1 F1 A1 o w h1 hg ho).mono fun e w' hr => ?_
  obtain ⟨a, c, he, hl, F', A', g1, g2, g3, g4⟩ := hr
  have hs := h5.size
  have l2 := h2.lt
  have hF2 : ∀ k ∈ F2, k ∉ F1 := fun k q q2 => (h3 k q2).1 q
  have hA2 : ∀ k ∈ A2, k ∉ F1 := fun k q q2 => (h3 k q2).2 q
  refine ⟨a, c, he, ⟨F', A', F2, A2, g1, h2.frame (fun k q => g2.block k (l2.1 k q) (hF2 k q)) (fun k q => g2.block k (l2.2 k q) (hA2 k q)) g2.size, fun k q => ?_, fun k q q2 => ?_, g2.fresh h5 (fun k q => (h6 k q).1), fun k q => ?_, fun k q => ?_, h8, h9⟩, hl, g2.kept fun k q => (h6 k q).2⟩
  · rcases g3 k q with q | q
    · exact h3 k q
    · exact ⟨fun e => by have := l2.1 k e; omega, fun e => by have := l2.2 k e; omega⟩
  · rcases g4 k q2 with q2 | q2
    · exact h4 k q q2
    · have := l2.1 k q; omega
  · rcases g3 k q with q | q
    · exact (h6 k q).1
    · omega
  · rcases g4 k q with q | q
    · exact h7 k q
    · omega
theorem playR_len2 {S : PV} (hg : Good S) (o : Op) : (playR S o).list.length ≤ 30 := by
  unfold playR
  repeat' (split; simp)
  all_goals try simp
  unfold listR
  split
  · simp
  · cases hf : S.find o.name with
    | none => simp
    | some c => simp only [entries_len]; exact (hg.ok.cs c (find_mem hf).1).rl
/-! ### who gives -/
def memN (ns : List ByteArray) (n : ByteArray) : Bool := ns.any fun m => decide (m = n)
theorem memN_iff (ns : List ByteArray) (n : ByteArray) : memN ns n = true ↔ n ∈ ns := by simp [memN]
theorem memN_not (ns : List ByteArray) (n : ByteArray) (h : ¬ n ∈ ns) : memN ns n = false := by
  cases e : memN ns n with
  | false => rfl
  | true => exact absurd ((memN_iff ns n).1 e) h
def addNm (ns : List ByteArray) (n : ByteArray) : List ByteArray := if memN ns n then ns else ns ++ [n]
theorem addNm_mem (ns : List ByteArray) (n m : ByteArray) : m ∈ addNm ns n ↔ m ∈ ns ∨ m = n := by
  unfold addNm
  split
  · rename_i h
    exact ⟨.inl, fun h2 => by rcases h2 with h2 | rfl; exact h2; exact (memN_iff _ _).1 h⟩
  · simp
theorem addNm_len (ns : List ByteArray) (n : ByteArray) : (addNm ns n).length ≤ ns.length + 1 := by
  unfold addNm
  split
  · omega
  · simp
def stepN (mine : ByteArray) (ns : List ByteArray) (o : Op) : List ByteArray := if o.kind = 7 ∧ o.other = mine then addNm ns o.name else ns
def giveN (mine : ByteArray) (l : List Op) : List ByteArray := l.foldl (stepN mine) [mine]
theorem stepN_mono (mine : ByteArray) (ns : List ByteArray) (o : Op) {m : ByteArray} (h : m ∈ ns) : m ∈ stepN mine ns o := by
  unfold stepN
  split
  · exact (addNm_mem _ _ _).2 (.inl h)
  · exact h
theorem foldN_mono (mine : ByteArray) : ∀ (l : List Op) (ns : List ByteArray) {m : ByteArray}, m ∈ ns → m ∈ l.foldl (stepN mine) ns
  | [], _, _, h => h
  | o :: l, ns, _, h => foldN_mono mine l _ (stepN_mono mine ns o h)
theorem foldN_all (mine : ByteArray) : ∀ (l : List Op) (ns : List ByteArray) (o : Op), o ∈ l → o.kind = 7 → o.other = mine → o.name ∈ l.foldl (stepN mine) ns
  | x :: l, ns, o, h, h1, h2 => by
    rcases List.mem_cons.1 h with rfl | h
    · refine foldN_mono mine l _ ?_
      unfold stepN
      rw [if_pos ⟨h1, h2⟩]
      exact (addNm_mem _ _ _).2 (.inr rfl)
    · exact foldN_all mine l _ o h h1 h2
theorem giveN_take (mine : ByteArray) (l : List Op) (k : Nat) (hk : k < l.length) : giveN mine (l.take (k + 1)) = stepN mine (giveN mine (l.take k)) (oth l k) := by
  unfold giveN
  rw [List.take_succ_eq_append_getElem hk, List.foldl_append, oth_eq _ _ hk]; rfl
theorem giveN_len (mine : ByteArray) (l : List Op) : (giveN mine l).length ≤ l.length + 1 := by
  have h : ∀ (l : List Op) (ns : List ByteArray), (l.foldl (stepN mine) ns).length ≤ l.length + ns.length := by
    intro l
    induction l with
    | nil => intro ns; simp
    | cons o l ih =>
      intro ns
      have h1 := ih (stepN mine ns o)
      have h2 : (stepN mine ns o).length ≤ ns.length + 1 := by
        unfold stepN
        split
        · exact addNm_len _ _
        · omega
      simp only [List.foldl_cons, List.length_cons]
      omega
  have := h l [mine]
  simpa [giveN] using this
def namesM (ns : List ByteArray) : List (Value × Value) := ns.map fun n => (.string n, .bool true)
theorem give_store {w : World} {g : Nat} {ns : List ByteArray} (h : MapAt 9 w g (namesM ns)) (n : ByteArray) (hn : n.size ≤ maxLen) (hl : ns.length ≤ 1000) :
    ∃ w', (Instr.mapUpdate 81 (.map (some g)) (.string n) (.bool true)).run Try.prog w = .ok () w' ∧ MapAt 9 w' g (namesM (addNm ns n)) ∧ Turned w w' g := by
  by_cases q : n ∈ ns
  · obtain ⟨j, hj, hje⟩ := List.getElem_of_mem q
    have hm : (namesM ns)[j]? = some (.string n, .bool true) := by simp [namesM, hj, hje]
    obtain ⟨w', h1, h2, h3⟩ := h.store_old law9 Try.underlying81 (key9 n hn) (val := .bool true) hm
    refine ⟨w', h1, ?_, h3⟩
    unfold addNm
    rw [if_pos ((memN_iff _ _).2 q)]
    have : (namesM ns).set j (Value.string n, Value.bool true) = namesM ns := by
      apply List.ext_getElem?
      intro i
      rw [List.getElem?_set]
      split
      · rename_i e; subst e
        rw [hm]; simp [namesM, hj]
      · rfl
    rwa [this] at h2
  · obtain ⟨w', h1, h2, h3⟩ := h.store_new law9 Try.underlying81 (key9 n hn) (val := .bool true) (fun p hp e => by
      obtain ⟨m, hm, rfl⟩ := List.mem_map.1 hp
      simp only [Value.string.injEq] at e
      subst e; exact q hm) (by simp only [namesM, List.length_map, maxLen]; omega)
    refine ⟨w', h1, ?_, h3⟩
    unfold addNm
    rw [memN_not _ _ q]
    simpa [namesM] using h2
theorem give_look {w : World} {g : Nat} {ns : List ByteArray} (h : MapAt 9 w g (namesM ns)) (n : ByteArray) (hn : n.size ≤ maxLen) :
    (Instr.lookup 81 (.map (some g)) (.string n) false).run Try.prog w = .ok (.bool (memN ns n)) w := by
  by_cases q : n ∈ ns
  · rw [(memN_iff _ _).2 q]
    exact h.look_yes law9 Try.underlying81 (key9 n hn) (List.mem_map.2 ⟨n, q, rfl⟩) false
  · rw [memN_not _ _ q]
    exact h.look_no law9 Try.underlying81 (zero4 w) (key9 n hn) (fun p hp e => by
      obtain ⟨m, hm, rfl⟩ := List.mem_map.1 hp
      simp only [Value.string.injEq] at e
      subst e; exact q hm) false
theorem Ext.turned {a w w' : World} {b : Nat} (h : Ext a w) (t : Turned w w' b) (hb : a.heap.size ≤ b) : Ext a w' :=
  ⟨t.os.trans h.os, t.tape.trans h.tape, t.output.trans h.output, Nat.le_trans h.size (Nat.le_of_eq t.size.symm), fun k hk => (t.block k (by omega)).trans (Below.block h k hk)⟩
set_option maxRecDepth 100000 in
set_option maxHeartbeats 8000000 in
theorem apart_any (a : Option Addr) (xs : List Op) (c : Nat) (mine : ByteArray) (w : World) (hx : Ops w a xs) (hm : mine.size ≤ maxLen) (hl : xs.length ≤ 9223372036854775807) :
    Calls Try.prog 9 #[.agg #[.slice a xs.length c, .string mine]] w (Ret (.bool true) w) := by
  have HX := Lib.hid hx; have HM := Lib.hid hm
  have hwd := fun W (e : Ext w W) => wide_any a xs c W (hx.ext e) hl
  obtain ⟨n, hn⟩ : ∃ n, n = xs.length := ⟨_, rfl⟩
  obtain ⟨q, hq⟩ : ∃ q, q = wideB xs := ⟨_, rfl⟩
  have HN := Lib.hid hn; have HQ := Lib.hid hq
  rw [← hn, ← hq] at hwd
  rw [← hn] at hl ⊢
  have HWD := Lib.hid hwd
  clear hx hm hn hq hwd
  go_enter Try.func9, Try.ntmps9
  go_upto_region 1 with fail
  generalize hw1 : World.alloc _ _ = w1
  obtain ⟨he, o1, -⟩ := alloc1 hw1
  obtain ⟨a0, a1⟩ := obj_cells2 o1
  have HA0 := Lib.hid a0; have HA1 := Lib.hid a1
  clear hw1 o1
  have E1 := Ext.refl w1
  go_wp2_with (fail)
  (with_reducible refine (HWD.out _ he).mono ?_); rintro e w2 ⟨rfl, he2⟩
  have hx2 := he.trans he2
  clear HWD
  cases q
  · cases T0 : decide (60 < (mine.size : Int))
    · have hb := wideB_false HQ.out.symm
      rw [← HN.out] at hb
      have hn25 := hb.1
      have hmm := @run_makeMap Try.prog
      clear hb hl
      go_upto_region 3 with fail
      have hup := run_mapW (give_store (ns := []) (MapAt.made 9 w2) mine HM.out (by simp))
      have hup1 := hup.1
      have hgm := hup.2.1
      have hge := (he2.alloc (.map #[] 0)).turned hup.2.2 he2.size
      have HGM := Lib.hid hgm; have HGE := Lib.hid hge
      have hg0 := he2.size
      clear hup hgm hge
      go_upto_region 4 with fail
      generalize mapW _ _ _ _ _ = w3 at *
      obtain ⟨g, hg⟩ : ∃ g, g = w2.heap.size := ⟨_, rfl⟩
      rw [← hg] at HGM hg0 ⊢
      clear hup1 hmm hg E1 a0 a1
      go_wp2_with (fail)
      go_loopw [4] (fun i wr => ∃ k : Nat, k ≤ n ∧ i = .int .i64 k ∧ Hid (MapAt 9 wr g (namesM (giveN mine (xs.take k)))) ∧ Hid (Ext w1 wr)) (fun i _ => n - (intOf i).toNat)
      case atStart => exact ⟨0, Nat.zero_le _, rfl, HGM.out, HGE.out⟩
      case round =>
        obtain ⟨k, hk, rfl, hgm, hx⟩ := hrel
        have E0 := Ext.refl wr
        have a0 := fun W (e : Ext wr W) => HA0.out W (hx.out.trans e)
        have a1 := fun W (e : Ext wr W) => HA1.out W (hx.out.trans e)
        by_cases hlt : k < n
        · have hlx : k < xs.length := by rw [← HN.out]; exact hlt
          obtain ⟨b, o, rfl, hc⟩ := HX.out.at k hlx
          obtain ⟨c0, c1, c2, c3, c4, c5, c6, c7, c8⟩ := hc wr (he.trans hx.out)
          have hgk := giveN_take mine xs k hlx
          have hok := HX.out.2 k hlx
          have hgl := giveN_len mine (xs.take k)
          rw [List.length_take, Nat.min_eq_left (by omega)] at hgl
          generalize oth xs k = x at *
          have HGK := Lib.hid hgk; have HOK := Lib.hid hok; have HGL := Lib.hid hgl
          clear hc hgk hok hgl hlx
          have hi0 : (0 : Int) ≤ (k : Int) := by omega
          have hi1 : (k : Int) < (n : Int) := by omega
          go_upto_region 8 with fail
          clear c0 c1 c2 c3 c4 c5 c6 c7 c8 a0
          generalize hw4 : World.alloc _ _ = w4
          obtain ⟨he4, o4, -⟩ := alloc1 hw4
          obtain ⟨c0, c1, c2, c3, c4, c5, c6, c7, c8⟩ := obj_cells9 o4
          have a1 := fun W (e : Ext w4 W) => a1 W (he4.trans e)
          have HX4 := Lib.hid (hx.out.trans he4)
          have hgm4 := hgm.out.ext he4
          have HGM4 := Lib.hid hgm4
          have E4 := Ext.refl w4
          clear hw4 o4 he4 hx hgm E0 hgm4 c2 c3 c5 c6 c7 c8
          have s2 := str_beq x.other mine
          by_cases q7 : x.kind = 7 ∧ x.other = mine
          · have T1 : (x.kind == 7) = true := by simpa using q7.1
            rw [decide_eq_true q7.2] at s2
            have hst : stepN mine (giveN mine (xs.take k)) x = addNm (giveN mine (xs.take k)) x.name := by unfold stepN; rw [if_pos q7]
            rw [hst] at HGK
            have hup := run_mapW (give_store HGM4.out x.name HOK.out.nm (by have := HGL.out; omega))
            have hup1 := hup.1
            have HU := Lib.hid hup.2
            have HXU := Lib.hid (HX4.out.turned HU.out.2 hg0)
            clear hup hst q7
            go_upto_region 6 with fail
            generalize mapW _ _ _ _ _ = w5 at *
            clear hup1 c0 c1 c4 a1 E4
            go_wp2_with (fail)
            go_roundw
            case rel => exact ⟨k + 1, by omega, by go_num, by rw [HGK.out]; exact HU.out.1, HXU⟩
            case measure => simp [intOf]; omega
          · have hst : stepN mine (giveN mine (xs.take k)) x = giveN mine (xs.take k) := by unfold stepN; rw [if_neg q7]
            rw [hst] at HGK
            clear hst
            by_cases q1 : x.kind = 7
            · have q2 : ¬ x.other = mine := fun e => q7 ⟨q1, e⟩
              have T1 : (x.kind == 7) = true := by simpa using q1
              rw [decide_eq_false q2] at s2
              clear q7 q1 q2
              go_wp2_with (fail)
              go_roundw
              case rel => exact ⟨k + 1, by omega, by go_num, by rw [HGK.out]; exact HGM4.out, HX4⟩
              case measure => simp [intOf]; omega
            · have T1 : (x.kind == 7) = false := by simpa using q1
              clear q7 q1 s2
              go_wp2_with (fail)
              go_roundw
              case rel => exact ⟨k + 1, by omega, by go_num, by rw [HGK.out]; exact HGM4.out, HX4⟩
              case measure => simp [intOf]; omega
        · obtain rfl : k = n := by omega
          obtain ⟨ns, hns⟩ : ∃ ns, ns = giveN mine xs := ⟨_, rfl⟩
          rw [List.take_of_length_le (by rw [← HN.out]; exact Nat.le_refl _), ← hns] at hgm
          have hG : ∀ o ∈ xs, o.kind = 7 → o.other = mine → memN ns o.name = true := fun o h1 h2 h3 => by
            rw [memN_iff, hns]; exact foldN_all mine xs [mine] o h1 h2 h3
          have hGm : memN ns mine = true := by
            rw [memN_iff, hns]; exact foldN_mono mine xs [mine] (by simp)
          have hlk := fun W (e : Ext wr W) (n : ByteArray) (hn : n.size ≤ maxLen) => give_look (hgm.out.ext e) n hn
          have HG := Lib.hid hG; have HGm := Lib.hid hGm; have HLK := Lib.hid hlk
          clear hns hG hGm hlk hgm HGM HGE
          go_wp2_with (fail)
          clear E0 a0 a1
          (with_reducible refine (new_f _).mono ?_); rintro e w4 ⟨b1, rfl, hv1⟩
          have HV1 := Lib.hid hv1
          clear hv1
          go_wp2_with (fail)
          (with_reducible refine (new_f _).mono ?_); rintro e w5 ⟨b2, rfl, hv2⟩
          have HT := Lib.hid (Two.of HV1.out hv2)
          clear HV1 hv2
          go_wp2_with (fail)
          obtain ⟨wo, rfl⟩ : ∃ wo : World, wo = wr := ⟨_, rfl⟩
          go_loopw [8] (fun i wr => ∃ j : Nat, j ≤ k ∧ i = .int .i64 j ∧ Hid (∃ S T B, Two wo wr b1 S b2 T B ∧ Good S ∧ Good T ∧ Rel (memN ns) mine S T)) (fun i _ => k - (intOf i).toNat)
          case atStart => exact ⟨0, Nat.zero_le _, rfl, ⟨_, _, _, HT.out, Good.new, Good.new, Rel.new _ _⟩⟩
          case round =>
            obtain ⟨j, hj, rfl, hh⟩ := hrel
            obtain ⟨S, T, B, ht, hgs, hgt, hrr⟩ := hh.out
            have hxr := hx.out.trans ht.old
            have HT := Lib.hid ht; have HGS := Lib.hid hgs; have HGT := Lib.hid hgt; have HR := Lib.hid hrr
            have E0 := Ext.refl wr
            have a0 := fun W (e : Ext wr W) => HA0.out W (hxr.trans e)
            have HA1r := Lib.hid (fun W (e : Ext wr W) => HA1.out W (hxr.trans e))
            clear hh ht hgs hgt hrr
            by_cases hlt : j < k
            · have hlx : j < xs.length := by rw [← HN.out]; exact hlt
              obtain ⟨b, o, rfl, hc⟩ := HX.out.at j hlx
              obtain ⟨c0, c1, c2, c3, c4, c5, c6, c7, c8⟩ := hc wr (he.trans hxr)
              have hok := HX.out.2 j hlx
              have hmem : oth xs j ∈ xs := by rw [oth_eq _ _ hlx]; exact List.getElem_mem hlx
              have hg7 := HG.out (oth xs j) hmem
              generalize oth xs j = x at *
              have HOK := Lib.hid hok; have HG7 := Lib.hid hg7
              clear hc hok hlx hmem hg7 hxr
              have hi0 : (0 : Int) ≤ (j : Int) := by omega
              have hi1 : (j : Int) < (k : Int) := by omega
              go_upto_region 15 with fail
              clear c0 c1 c2 c3 c4 c5 c6 c7 c8 a0
              generalize hwa : World.alloc _ _ = wa
              obtain ⟨hea, oa, hsa⟩ := alloc1 hwa
              obtain ⟨c0, c1, c2, c3, c4, c5, c6, c7, c8⟩ := obj_cells9 oa
              have hpl := play_two1b (HT.out.cap2.ext hea) HGS.out x HOK.out
              have HPL := Lib.hid hpl; have HOA := Lib.hid oa; have HSA := Lib.hid hsa; have HEA := Lib.hid hea
              have Ea := Ext.refl wa
              clear hwa hpl oa hea E0 hsa
              go_wp2_with fail
              (with_reducible refine HPL.out.mono ?_); rintro e wb ⟨ra, rc, rfl, ht, ho, hkp⟩
              have hbb := hkp.block wr.heap.size (Nat.le_refl _) (by rw [HSA.out]; omega)
              rw [HOA.out] at hbb
              obtain ⟨r, hr⟩ : ∃ r, r = playR S x := ⟨_, rfl⟩
              have HRR := Lib.hid hr
              rw [← hr] at ho ⊢
              have HTb := Lib.hid ht; have HOb := Lib.hid ho; have HBb := Lib.hid hbb
              have hszb := hkp.size
              have HSZ := Lib.hid hszb
              clear c0 c1 c2 c3 c4 c5 c6 c7 c8 Ea HPL ht ho hkp hbb hr hszb
              go_upto_region 16 with fail
              generalize hwc : World.alloc _ _ = wc
              obtain ⟨hec, oc, hsc⟩ := alloc1 hwc
              obtain ⟨c0, c1, c2, c3, c4, c5, c6, c7, c8⟩ := obj_cells9 (hec.block HBb.out)
              have hTc := HTb.out.ext hec
              have hlk := HLK.out wc hTc.old x.name HOK.out.nm
              obtain ⟨qg, hqg⟩ : ∃ qg, qg = memN ns x.name := ⟨_, rfl⟩
              rw [← hqg] at hlk
              have HTc := Lib.hid hTc; have HQG := Lib.hid hqg; have HOC := Lib.hid oc; have HEC := Lib.hid hec; have HSC := Lib.hid hsc
              have Ec := Ext.refl wc
              clear hwc oc hec hTc hqg hsc
              by_cases q2 : 2 < x.kind ∧ qg = false
              · obtain ⟨q2, rfl⟩ := q2
                have T1 : decide (2 < x.kind) = true := decide_eq_true q2
                have hrel := HR.out.skip x q2 HQG.out.symm (fun h7 e => by have := HG7.out h7 e; rw [← HQG.out] at this; cases this)
                have HREL := Lib.hid hrel
                clear q2 hrel
                go_wp2_with (fail)
                go_roundw
                case rel => exact ⟨j + 1, by omega, by go_num, ⟨_, _, _, HTc.out, HGS.out.play x, HGT.out, HREL.out⟩⟩
                case measure => simp [intOf]; omega
              · have hrel := HR.out.play x (by
                  rcases Classical.em (2 < x.kind) with h | h
                  · right; rw [← HQG.out]; cases e : qg with
                    | true => rfl
                    | false => exact absurd ⟨h, e⟩ q2
                  · left; omega)
                have hres := fun h : x.name = mine => HR.out.res HGm.out x h
                have hpl2 := play_two2 HTc.out HGT.out x HOK.out
                have HREL := Lib.hid hrel; have HRES := Lib.hid hres; have HPL := Lib.hid hpl2
                clear hrel hres hpl2
                have hgo : decide (2 < x.kind) = false ∨ (decide (2 < x.kind) = true ∧ qg = true) := by
                  rcases Classical.em (2 < x.kind) with h | h
                  · right; refine ⟨decide_eq_true h, ?_⟩
                    cases e : qg with
                    | true => rfl
                    | false => exact absurd ⟨h, e⟩ q2
                  · left; exact decide_eq_false h
                clear q2
                have s2 := str_beq x.name mine
                rcases hgo with T1 | ⟨T1, rfl⟩
                all_goals
                  go_upto_region 17 with fail
                  go_wp2_with fail
                  (with_reducible refine HPL.out.mono ?_); rintro e wd ⟨ra2, rc2, rfl, ht2, ho2, hkp2⟩
                  have z1 := HSA.out; have z2 := HSZ.out; have z3 := HSC.out
                  have hb9 := hkp2.block wr.heap.size (Nat.le_refl _) (by omega)
                  rw [HEC.out.block HBb.out] at hb9
                  have hb10 := hkp2.block wb.heap.size (by omega) (by omega)
                  rw [HOC.out] at hb10
                  have hol := hkp2.own (own_base (HOb.out.ext HEC.out) (by omega))
                  obtain ⟨r2, hr2⟩ : ∃ r2, r2 = playR T x := ⟨_, rfl⟩
                  rw [← hr2] at ho2 ⊢
                  rw [← HRR.out, ← hr2] at HRES
                  have HB9 := Lib.hid hb9; have HB10 := Lib.hid hb10; have HOL := Lib.hid hol; have HOL2 := Lib.hid ho2; have HT2 := Lib.hid ht2
                  clear z1 z2 z3 hb9 hb10 hol hr2 ho2 ht2 hkp2 hlk c0 c1 c2 c3 c4 c5 c6 c7 c8 Ec
                  go_upto_region 18 with fail
                  generalize hwe : World.alloc _ _ = we
                  obtain ⟨hee, oe, hse⟩ := alloc1 hwe
                  obtain ⟨-, c1, -⟩ := obj_cells9 (hee.block HB9.out)
                  have HBe := Lib.hid (hee.block HB10.out)
                  obtain ⟨g0, g1, g2, g3⟩ := obj_cells4 HBe.out
                  obtain ⟨f0, f1, f2, f3⟩ := obj_cells4 oe
                  have HTe := Lib.hid (HT2.out.ext hee)
                  have HLE := Lib.hid (OwnE.ents (own_ext HOL.out hee)); have HLE2 := Lib.hid (OwnE.ents (HOL2.out.ext hee))
                  have ha1 := HA1.out we (hx.out.trans HTe.out.old)
                  have Ee := Ext.refl we
                  clear hwe oe hse hee
                  by_cases q3 : x.name = mine
                  · have hsm := HRES.out q3
                    rw [decide_eq_true q3] at s2
                    subst hsm
                    have hsa := same_any r ra ra2 rc rc2 we HLE.out HLE2.out (by rw [HRR.out]; have := playR_len2 HGS.out x; omega)
                    have HS := Lib.hid hsa
                    clear hsa q3
                    go_wp2_with (fail)
                    (with_reducible refine HS.out.mono ?_); rintro e wf ⟨rfl, hef⟩
                    have HTf := Lib.hid (HTe.out.ext hef)
                    clear hef
                    go_wp2_with (fail)
                    go_roundw
                    case rel => exact ⟨j + 1, by omega, by go_num, ⟨_, _, _, HTf.out, HGS.out.play x, HGT.out.play x, HREL.out⟩⟩
                    case measure => simp [intOf]; omega
                  · rw [decide_eq_false q3] at s2
                    clear q3
                    go_wp2_with (fail)
                    go_roundw
                    case rel => exact ⟨j + 1, by omega, by go_num, ⟨_, _, _, HTe.out, HGS.out.play x, HGT.out.play x, HREL.out⟩⟩
                    case measure => simp [intOf]; omega
            · obtain rfl : j = k := by omega
              have hd1 := day_f HT.out.fst
              rw [HR.out.day] at hd1
              have HD1 := Lib.hid hd1
              clear hd1 hxr
              go_wp2_with (fail)
              clear a0
              (with_reducible refine HD1.out.mono ?_); rintro e wd ⟨rfl, hed⟩
              have HTd := Lib.hid (HT.out.ext hed)
              have hd2 := day_f HTd.out.snd
              have HD2 := Lib.hid hd2
              clear hd2 hed HD1
              go_wp2_with (fail)
              (with_reducible refine HD2.out.mono ?_); rintro e we ⟨rfl, hee⟩
              have HXe := Lib.hid ((he.trans (hx.out.trans HTd.out.old)).trans hee)
              clear hee HD2
              go_wp2_with (fail)
              (with_reducible refine (known_any _).mono ?_); rintro e wf ⟨rfl, hef⟩
              go_wp2_with (fail)
              go_ret
              exact ⟨rfl, HXe.out.trans hef⟩
    · go_wp2_with (fail)
      (with_reducible refine (known_any _).mono ?_); rintro e w3 ⟨rfl, he3⟩
      go_wp2_with (fail)
      go_ret
      exact ⟨rfl, hx2.trans he3⟩
  · go_wp2_with (fail)
    (with_reducible refine (known_any _).mono ?_); rintro e w3 ⟨rfl, he3⟩
    go_wp2_with (fail)
    go_ret
    exact ⟨rfl, hx2.trans he3⟩
end Go.Proofs.Ytlahejakcgoheaa
