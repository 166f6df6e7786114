/-
  Walks of the reference: a nil vault refuses every call.
-/
import Derived.Test.YtlahejakcgoheaaST
set_option linter.unusedVariables false
set_option linter.unusedSimpArgs false
namespace Go.Proofs.Ytlahejakcgoheaa
open Go.RowKit
theorem rnil_ent (nm ps : ByteArray) (w : World) (hn : nm.size ≤ 1000) (hp : ps.size ≤ 1000) : Calls Try.prog 79 #[rv true none 0 0, .string nm, .string ps] w (Ret (.int .i64 1) w) := by
  have := rent_any true none [] 0 nm ps w ⟨.inl rfl, fun i hi => by simp at hi⟩ (by simp) (by omega) (by omega)
  exact this
set_option maxRecDepth 100000 in
set_option maxHeartbeats 1000000 in
theorem rnil_enrol (nm ps : ByteArray) (w : World) (hn : nm.size ≤ 1000) (hp : ps.size ≤ 1000) : Calls Try.prog 49 #[rv true none 0 0, .string nm, .string ps] w (Ret (.tuple #[rv true none 0 0, .int .i64 1]) w) := by
  clear hn hp
  go_enter Try.func49, Try.ntmps49
  go_upto_region 1 with fail
  generalize hw1 : World.alloc _ _ = w1
  obtain ⟨he, o1, o2, hs1⟩ := alloc2 hw1
  have HE := Lib.hid he
  obtain ⟨v0, v1⟩ := obj_cells2 o1
  obtain ⟨z0, z1⟩ := obj_cells2 o2
  have f1 := obj_free o2
  have E1 := Ext.refl w1
  clear hw1 o1 o2
  go_wp2_with (fail)
  refine bodyPost_ret (v := .tuple #[rv true none 0 0, .int .i64 1]) (by simp [results, Try.results49, go_sem, z0 _ E1, z1 _ E1]) rfl ⟨rfl, set2_ext HE.out (by omega) _ _⟩
set_option maxRecDepth 100000 in
set_option maxHeartbeats 1000000 in
theorem rnil_adv (d : Int) (w : World) : Calls Try.prog 50 #[rv true none 0 0, .int .i64 d] w (Ret (.tuple #[rv true none 0 0, .int .i64 1]) w) := by
  go_enter Try.func50, Try.ntmps50
  go_upto_region 1 with fail
  generalize hw1 : World.alloc _ _ = w1
  obtain ⟨he, o1, o2, hs1⟩ := alloc2 hw1
  have HE := Lib.hid he
  obtain ⟨v0, v1⟩ := obj_cells2 o1
  obtain ⟨z0, z1⟩ := obj_cells2 o2
  have f1 := obj_free o2
  have E1 := Ext.refl w1
  clear hw1 o1 o2
  go_wp2_with (fail)
  refine bodyPost_ret (v := .tuple #[rv true none 0 0, .int .i64 1]) (by simp [results, Try.results50, go_sem, z0 _ E1, z1 _ E1]) rfl ⟨rfl, set2_ext HE.out (by omega) _ _⟩
set_option maxRecDepth 100000 in
set_option maxHeartbeats 1000000 in
theorem rnil_seal (nm ps kd tx : ByteArray) (un : Int) (w : World) (hn : nm.size ≤ 1000) (hp : ps.size ≤ 1000) : Calls Try.prog 51 #[rv true none 0 0, .string nm, .string ps, .string kd, .int .i64 un, .string tx] w (Ret (.tuple #[rv true none 0 0, .int .i64 0, .int .i64 1]) w) := by
  have hen := fun W => rnil_ent nm ps W hn hp
  have HEN := Lib.hid hen
  clear hen hn hp
  go_enter Try.func51, Try.ntmps51
  go_upto_region 1 with fail
  generalize hw1 : World.alloc _ _ = w1
  obtain ⟨he, o1, o2, hs1⟩ := alloc2 hw1
  have HE := Lib.hid he
  obtain ⟨v0, v1⟩ := obj_cells2 o1
  obtain ⟨z0, z1⟩ := obj_cells2 o2
  have f1 := obj_free o2
  have E1 := Ext.refl w1
  clear hw1 o1 o2
  go_wp2_with (fail)
  (with_reducible refine (HEN.out _).mono ?_); rintro e w2 ⟨rfl, he2⟩
  go_wp2_with (fail)
  refine bodyPost_ret (v := .tuple #[rv true none 0 0, .int .i64 0, .int .i64 1]) (by simp [results, Try.results51, go_sem, z0 _ he2, z1 _ he2]) rfl ⟨rfl, set2_ext (HE.out.trans he2) (by omega) _ _⟩
set_option maxRecDepth 100000 in
set_option maxHeartbeats 1000000 in
theorem rnil_rev (nm ps tx : ByteArray) (num : Int) (w : World) (hn : nm.size ≤ 1000) (hp : ps.size ≤ 1000) : Calls Try.prog 52 #[rv true none 0 0, .string nm, .string ps, .int .i64 num, .string tx] w (Ret (.tuple #[rv true none 0 0, .int .i64 0, .int .i64 1]) w) := by
  have hen := fun W => rnil_ent nm ps W hn hp
  have HEN := Lib.hid hen
  clear hen hn hp
  go_enter Try.func52, Try.ntmps52
  go_upto_region 1 with fail
  generalize hw1 : World.alloc _ _ = w1
  obtain ⟨he, o1, o2, hs1⟩ := alloc2 hw1
  have HE := Lib.hid he
  obtain ⟨v0, v1⟩ := obj_cells2 o1
  obtain ⟨z0, z1⟩ := obj_cells2 o2
  have f1 := obj_free o2
  have E1 := Ext.refl w1
  clear hw1 o1 o2
  go_wp2_with (fail)
  (with_reducible refine (HEN.out _).mono ?_); rintro e w2 ⟨rfl, he2⟩
  go_wp2_with (fail)
  refine bodyPost_ret (v := .tuple #[rv true none 0 0, .int .i64 0, .int .i64 1]) (by simp [results, Try.results52, go_sem, z0 _ he2, z1 _ he2]) rfl ⟨rfl, set2_ext (HE.out.trans he2) (by omega) _ _⟩
set_option maxRecDepth 100000 in
set_option maxHeartbeats 1000000 in
theorem rnil_open (nm ps : ByteArray) (num ver : Int) (w : World) (hn : nm.size ≤ 1000) (hp : ps.size ≤ 1000) : Calls Try.prog 53 #[rv true none 0 0, .string nm, .string ps, .int .i64 num, .int .i64 ver] w (Ret (.tuple #[.string ⟨#[]⟩, .int .i64 1]) w) := by
  have hen := fun W => rnil_ent nm ps W hn hp
  have HEN := Lib.hid hen
  clear hen hn hp
  go_enter Try.func53, Try.ntmps53
  go_upto_region 1 with fail
  generalize hw1 : World.alloc _ _ = w1
  obtain ⟨he, o1, hs1⟩ := alloc1 hw1
  have HE := Lib.hid he
  obtain ⟨v0, v1⟩ := obj_cells2 o1
  have E1 := Ext.refl w1
  clear hw1 o1
  go_wp2_with (fail)
  (with_reducible refine (HEN.out _).mono ?_); rintro e w2 ⟨rfl, he2⟩
  go_wp2_with (fail)
  go_ret2
  exact ⟨rfl, HE.out.trans he2⟩
set_option maxRecDepth 100000 in
set_option maxHeartbeats 1000000 in
theorem rnil_list (nm ps : ByteArray) (w : World) (hn : nm.size ≤ 1000) (hp : ps.size ≤ 1000) : Calls Try.prog 54 #[rv true none 0 0, .string nm, .string ps] w (Ret (.tuple #[.slice none 0 0, .int .i64 1]) w) := by
  have hen := fun W => rnil_ent nm ps W hn hp
  have HEN := Lib.hid hen
  clear hen hn hp
  go_enter Try.func54, Try.ntmps54
  go_upto_region 1 with fail
  generalize hw1 : World.alloc _ _ = w1
  obtain ⟨he, o1, hs1⟩ := alloc1 hw1
  have HE := Lib.hid he
  obtain ⟨v0, v1⟩ := obj_cells2 o1
  have E1 := Ext.refl w1
  clear hw1 o1
  go_wp2_with (fail)
  (with_reducible refine (HEN.out _).mono ?_); rintro e w2 ⟨rfl, he2⟩
  go_wp2_with (fail)
  go_ret2
  exact ⟨rfl, HE.out.trans he2⟩
set_option maxRecDepth 100000 in
set_option maxHeartbeats 1000000 in
theorem rnil_bor (nm ps fr sh : ByteArray) (num : Int) (w : World) (hn : nm.size ≤ 1000) (hp : ps.size ≤ 1000) : Calls Try.prog 56 #[rv true none 0 0, .string nm, .string ps, .string fr, .int .i64 num, .string sh] w (Ret (.tuple #[.string ⟨#[]⟩, .int .i64 1]) w) := by
  have hen := fun W => rnil_ent nm ps W hn hp
  have HEN := Lib.hid hen
  clear hen hn hp
  go_enter Try.func56, Try.ntmps56
  go_upto_region 1 with fail
  generalize hw1 : World.alloc _ _ = w1
  obtain ⟨he, o1, hs1⟩ := alloc1 hw1
  have HE := Lib.hid he
  obtain ⟨v0, v1⟩ := obj_cells2 o1
  have E1 := Ext.refl w1
  clear hw1 o1
  go_wp2_with (fail)
  (with_reducible refine (HEN.out _).mono ?_); rintro e w2 ⟨rfl, he2⟩
  go_wp2_with (fail)
  go_ret2
  exact ⟨rfl, HE.out.trans he2⟩
set_option maxRecDepth 100000 in
set_option maxHeartbeats 1000000 in
theorem rnil_rel (nm ps tu sh : ByteArray) (num : Int) (w : World) (hn : nm.size ≤ 1000) (hp : ps.size ≤ 1000) : Calls Try.prog 55 #[rv true none 0 0, .string nm, .string ps, .int .i64 num, .string tu, .string sh] w (Ret (.tuple #[rv true none 0 0, .int .i64 1]) w) := by
  have hen := fun W => rnil_open nm ps num 0 W hn hp
  have HEN := Lib.hid hen
  clear hen hn hp
  go_enter Try.func55, Try.ntmps55
  go_upto_region 1 with fail
  generalize hw1 : World.alloc _ _ = w1
  obtain ⟨he, o1, o2, hs1⟩ := alloc2 hw1
  have HE := Lib.hid he
  obtain ⟨v0, v1⟩ := obj_cells2 o1
  obtain ⟨z0, z1⟩ := obj_cells2 o2
  have f1 := obj_free o2
  have E1 := Ext.refl w1
  clear hw1 o1 o2
  go_wp2_with (fail)
  (with_reducible refine (HEN.out _).mono ?_); rintro e w2 ⟨rfl, he2⟩
  go_wp2_with (fail)
  refine bodyPost_ret (v := .tuple #[rv true none 0 0, .int .i64 1]) (by simp [results, Try.results55, go_sem, z0 _ he2, z1 _ he2]) rfl ⟨rfl, set2_ext (HE.out.trans he2) (by omega) _ _⟩
def ToldN (o : Op) (r : Res) (la : Option Addr) (lc : Nat) (N : Bool) (a : Option Addr) (n c : Nat) (W w' : World) : Prop := N = true ∧ a = none ∧ n = 0 ∧ c = 0 ∧ r = nilR o ∧ la = none ∧ lc = 0
theorem told_nil (o : Op) (w : World) (hn : o.name.size ≤ 1000) (hp : o.pass.size ≤ 1000) : Calls Try.prog 23 #[rv true none 0 0, opval o] w (Ret (.tuple #[rv true none 0 0, resval (nilR o) none 0]) w) := by
  refine (told_walk true none 0 0 o w (ToldN o) (fun k W e => ?_) (fun k W e => ?_) (fun k W e => ?_) (fun k W e => ?_) (fun k W e => ?_) (fun k W e => ?_) (fun k W e => ?_) (fun k W e => ?_) (fun k W e => ?_)).mono fun e w' h => ?_
  · exact (rnil_enrol o.name o.pass W hn hp).mono fun e' w' hr => ⟨true, none, 0, 0, 1, hr.1, hr.2, rfl, rfl, rfl, rfl, by simp [nilR, k], rfl, rfl⟩
  · exact (rnil_adv o.day W).mono fun e' w' hr => ⟨true, none, 0, 0, 1, hr.1, hr.2, rfl, rfl, rfl, rfl, by simp [nilR, k], rfl, rfl⟩
  · exact (rnil_seal o.name o.pass o.label o.text o.day W hn hp).mono fun e' w' hr => ⟨true, none, 0, 0, 0, 1, hr.1, hr.2, rfl, rfl, rfl, rfl, by simp [nilR, k], rfl, rfl⟩
  · exact (rnil_rev o.name o.pass o.text o.num W hn hp).mono fun e' w' hr => ⟨true, none, 0, 0, 0, 1, hr.1, hr.2, rfl, rfl, rfl, rfl, by simp [nilR, k], rfl, rfl⟩
  · exact (rnil_open o.name o.pass o.num o.ver W hn hp).mono fun e' w' hr => ⟨_, _, hr.1, hr.2, rfl, rfl, rfl, rfl, by simp [nilR, k], rfl, rfl⟩
  · exact (rnil_list o.name o.pass W hn hp).mono fun e' w' hr => ⟨[], none, 0, 1, hr.1, hr.2, rfl, rfl, rfl, rfl, by simp [nilR, k], rfl, rfl⟩
  · exact (rnil_rel o.name o.pass o.other o.text o.num W hn hp).mono fun e' w' hr => ⟨true, none, 0, 0, 1, hr.1, hr.2, rfl, rfl, rfl, rfl, by simp [nilR, k], rfl, rfl⟩
  · exact (rnil_bor o.name o.pass o.other o.text o.num W hn hp).mono fun e' w' hr => ⟨_, _, hr.1, hr.2, rfl, rfl, rfl, rfl, by simp [nilR, k], rfl, rfl⟩
  · refine ⟨rfl, rfl, rfl, rfl, ?_, rfl, rfl⟩
    unfold nilR
    rw [if_neg fun q => k o.kind q.1 q.2 rfl]
  · obtain ⟨r, la, lc, N, a, n, c', W, w'', rfl, h1, h2, h3, ⟨rfl, rfl, rfl, rfl, rfl, rfl, rfl⟩, h8, h9⟩ := h
    refine ⟨rfl, h9.os.trans (h3.os.trans h1.os), h9.tape.trans (h3.tape.trans h1.tape), h9.output.trans (h3.output.trans h1.output), Nat.le_trans h1.size (Nat.le_trans h3.size h9.size), fun k q => ?_⟩
    have hk : k < W.heap.size := by omega
    rw [h9.block k (Nat.lt_of_lt_of_le hk h3.size) (.inl q), Below.block h3 k hk, Below.block h1 k q]
end Go.Proofs.Ytlahejakcgoheaa
