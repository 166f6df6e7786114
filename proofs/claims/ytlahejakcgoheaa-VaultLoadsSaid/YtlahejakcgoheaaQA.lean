/-
  What calls of a vault give and leave, as plain words; play at a vault and at a nil one; same; a vault that is loaded from its own chain is the same.
-/
import Derived.Test.YtlahejakcgoheaaWD
import Derived.Test.YtlahejakcgoheaaP1
set_option linter.unusedVariables false
set_option linter.unusedSimpArgs false
namespace Go.Proofs.Ytlahejakcgoheaa
open Go.RowKit
def playR (S : PV) (o : Op) : Res :=
  if o.kind = 1 then ⟨0, ⟨#[]⟩, [], enrolE S o.name o.pass⟩
  else if o.kind = 2 then ⟨0, ⟨#[]⟩, [], advE S o.day⟩
  else if o.kind = 3 then ⟨if sealE S o.name o.pass o.label o.day o.text = 0 then (recsN S o.name : Int) + 1 else 0, ⟨#[]⟩, [], sealE S o.name o.pass o.label o.day o.text⟩
  else if o.kind = 4 then ⟨if revE S o.name o.pass o.num o.text = 0 then ((recAt S o.name o.num).1.length : Int) + 1 else 0, ⟨#[]⟩, [], revE S o.name o.pass o.num o.text⟩
  else if o.kind = 5 then ⟨0, (openR S o.name o.pass o.num o.ver).1, [], (openR S o.name o.pass o.num o.ver).2.2⟩
  else if o.kind = 6 then ⟨0, ⟨#[]⟩, (listR S o.name o.pass).1, (listR S o.name o.pass).2⟩
  else if o.kind = 7 then ⟨0, ⟨#[]⟩, [], relE S o.name o.pass o.num o.other o.text⟩
  else if o.kind = 8 then ⟨0, (borR S o.name o.pass o.other o.num o.text).1, [], (borR S o.name o.pass o.other o.num o.text).2⟩
  else ⟨0, ⟨#[]⟩, [], 0⟩
def playS (S : PV) (o : Op) : PV :=
  if o.kind = 1 then enrolS S o.name o.pass
  else if o.kind = 2 then advS S o.day
  else if o.kind = 3 then sealS S o.name o.pass o.label o.day o.text
  else if o.kind = 4 then revS S o.name o.pass o.num o.text
  else if o.kind = 7 then relS S o.name o.pass o.num o.other o.text
  else S
theorem Good.play {S : PV} (h : Good S) (o : Op) : Good (playS S o) := by
  unfold playS
  split
  · exact h.enrol _ _
  · split
    · exact h.adv _
    · split
      · exact h.seal _ _ _ _ _
      · split
        · exact h.rev _ _ _ _
        · split
          · exact h.rel _ _ _ _ _
          · exact h
/-- What 'play' leaves at a vault. -/
def RetPlay (b : Nat) (S : PV) (F A : List Nat) (o : Op) (w : World) (e : Ending) (w' : World) : Prop :=
  ∃ a c, e = .returned (resval (playR S o) a c) ∧ OwnE w' w.heap.size (.slice a (playR S o).list.length c) (playR S o).list ∧
    ∃ F' A', VaultAt w' b (playS S o) F' A' ∧ Upd F w w' ∧ (∀ k ∈ F', k ∈ F ∨ w.heap.size ≤ k) ∧ (∀ k ∈ A', k ∈ A ∨ w.heap.size ≤ k)
def PlayQ (b : Nat) (S : PV) (F A : List Nat) (o : Op) (r : Res) (a : Option Addr) (c : Nat) (W w' : World) : Prop :=
  r = playR S o ∧ OwnE w' W.heap.size (.slice a r.list.length c) r.list ∧ ∃ F' A', VaultAt w' b (playS S o) F' A' ∧ Upd F W w' ∧ (∀ k ∈ F', k ∈ F ∨ W.heap.size ≤ k) ∧ (∀ k ∈ A', k ∈ A ∨ W.heap.size ≤ k)
theorem Upd.kept {F : List Nat} {W w' : World} {lo : Nat} (h : Upd F W w') (hF : ∀ k ∈ F, k < lo) : Kept lo W w' := ⟨h.size, fun k h0 h1 => h.block k h1 fun q => by have := hF k q; omega⟩
theorem RetStep.q {b : Nat} {S S' : PV} {F A : List Nat} {o : Op} {v : Value} {r : Res} {W w' : World} {e : Ending} (h : RetStep b S' F A v W e w') (hr : r = playR S o) (hl : r.list = []) (hS : S' = playS S o) : PlayQ b S F A o r none 0 W w' := by
  obtain ⟨-, F', A', h1, h2, h3, h4⟩ := h
  subst hS
  refine ⟨hr, ?_, F', A', h1, h2, h3, h4⟩
  rw [hl]; exact OwnF.nil _ _ _ _ _
theorem Ret.q {b : Nat} {S : PV} {F A : List Nat} {o : Op} {r : Res} {W w' : World} (hv : VaultAt W b S F A) (e : Ext W w') (hr : r = playR S o) (hl : r.list = []) (hS : S = playS S o) : PlayQ b S F A o r none 0 W w' := by
  refine ⟨hr, ?_, F, A, ?_, e.upd, fun k q => .inl q, fun k q => .inl q⟩
  · rw [hl]; exact OwnF.nil _ _ _ _ _
  · rw [← hS]; exact hv.ext e
theorem ExtR.own {lo hi : Nat} {w w' : World} {e sz B : Nat} {v : Value} {n : Nat} {xs : List Value} (h : w.ownsRow B e sz v n xs) (k : ExtR lo hi w w') (hB : hi ≤ B) : w'.ownsRow B e sz v n xs :=
  own_of_block h fun q hq => by
    have := h.lt q hq
    exact k.block q this.2 (.inr (Nat.le_trans hB this.1))
theorem PlayPost.ret {b : Nat} {S : PV} {F A : List Nat} {o : Op} {w w' : World} {e : Ending} (hv : VaultAt w b S F A) (h : PlayPost (PlayQ b S F A o) w e w') : RetPlay b S F A o w e w' := by
  obtain ⟨r, a, c, W, w'', rfl, h1, h2, ⟨rfl, h3, F', A', h4, h5, h6, h7⟩, h8⟩ := h
  have hF := hv.lt
  have hlt := h4.lt
  have hblk : ∀ k, k < w''.heap.size → (k < w.heap.size ∨ W.heap.size ≤ k) → w'.heap[k]? = w''.heap[k]? := h8.block
  have hF' : ∀ k ∈ F', k < w.heap.size ∨ W.heap.size ≤ k := fun k q => by
    rcases h6 k q with q | q
    · exact .inl (hF.1 k q)
    · exact .inr q
  have hA' : ∀ k ∈ A', k < w.heap.size ∨ W.heap.size ≤ k := fun k q => by
    rcases h7 k q with q | q
    · exact .inl (hF.2 k q)
    · exact .inr q
  refine ⟨a, c, rfl, own_base (h8.own h3 (Nat.le_refl _)) (Nat.le_of_lt h2), F', A', h4.frame (fun k q => hblk k (hlt.1 k q) (hF' k q)) (fun k q => hblk k (hlt.2 k q) (hA' k q)) h8.size, ?_, fun k q => ?_, fun k q => ?_⟩
  · refine ⟨h8.os.trans (h5.os.trans h1.os), h8.tape.trans (h5.tape.trans h1.tape), h8.output.trans (h5.output.trans h1.output), Nat.le_trans h1.size (Nat.le_trans h5.size h8.size), fun k q1 q2 => ?_⟩
    have hk : k < W.heap.size := by omega
    rw [hblk k (Nat.lt_of_lt_of_le hk h5.size) (.inl q1), h5.block k hk q2, Below.block h1 k q1]
  · rcases h6 k q with q | q
    · exact .inl q
    · exact .inr (by omega)
  · rcases h7 k q with q | q
    · exact .inl q
    · exact .inr (by omega)
theorem play_any (b : Nat) (S : PV) (F A : List Nat) (o : Op) (w : World) (hv : VaultAt w b S F A) (hg : Good S) (ho : OpOk o) : Calls Try.prog 22 #[ptr b, opval o] w (RetPlay b S F A o w) := by
  have hF := hv.lt.1
  have hV := fun W (e : Ext w W) => hv.ext e
  refine (play_walk (ptr b) o w (PlayQ b S F A o) (fun k W e => ?_) (fun k W e => ?_) (fun k W e => ?_) (fun k W e => ?_) (fun k W e => ?_) (fun k W e => ?_) (fun k W e => ?_) (fun k W e => ?_) (fun k W e => ?_)).mono fun e w' h => h.ret hv
  · obtain ⟨V, rfl, rfl, h, rfl, rfl⟩ := hV W e
    refine (enrol_vw V W h hg o.name o.pass ho.nm ho.ps).mono fun e' w' hr => ⟨_, hr.1, ?_, hr.q ?_ rfl ?_⟩
    · obtain ⟨-, F', A', -, u, -⟩ := hr; exact u.kept hF
    · simp [playR, k]
    · simp [playS, k]
  · obtain ⟨V, rfl, rfl, h, rfl, rfl⟩ := hV W e
    refine (adv_vw V W h hg o.day ho.d0 ho.d1).mono fun e' w' hr => ⟨_, hr.1, ?_, hr.q ?_ rfl ?_⟩
    · obtain ⟨-, F', A', -, u, -⟩ := hr; exact u.kept hF
    · simp [playR, k]
    · simp [playS, k]
  · obtain ⟨V, rfl, rfl, h, rfl, rfl⟩ := hV W e
    refine (seal_vw V W h hg o.name o.pass o.label o.text o.day ho.nm ho.ps ho.lb ho.tx ho.d0 ho.d1).mono fun e' w' hr => ⟨_, _, hr.1, ?_, hr.q ?_ rfl ?_⟩
    · obtain ⟨-, F', A', -, u, -⟩ := hr; exact u.kept hF
    · simp [playR, k]
    · simp [playS, k]
  · obtain ⟨V, rfl, rfl, h, rfl, rfl⟩ := hV W e
    refine (rev_vw V W h hg o.name o.pass o.num o.text ho.nm ho.ps ho.tx ho.n0 ho.n1).mono fun e' w' hr => ⟨_, _, hr.1, ?_, hr.q ?_ rfl ?_⟩
    · obtain ⟨-, F', A', -, u, -⟩ := hr; exact u.kept hF
    · simp [playR, k]
    · simp [playS, k]
  · have hw := hV W e
    obtain ⟨V, rfl, rfl, h, rfl, rfl⟩ := hw
    refine (Open_any V W h hg o.name o.pass o.num o.ver ho.nm ho.ps ho.n0 ho.n1 ho.v0 ho.v1).mono fun e' w' hr => ⟨_, _, hr.1, hr.2.kept _, Ret.q (hV W e) hr.2 ?_ rfl ?_⟩
    · simp [playR, k]
    · simp [playS, k]
  · have hw := hV W e
    obtain ⟨V, rfl, rfl, h, rfl, rfl⟩ := hw
    refine (list_any V W h hg o.name o.pass ho.nm ho.ps).mono fun e' w' hr => ?_
    obtain ⟨a, c, q1, q2, q3⟩ := hr
    refine ⟨_, _, a, c, q1, q2.kept _, ?_, q3, _, _, ?_, q2.upd, fun k q => .inl q, fun k q => .inl q⟩
    · simp [playR, k]
    · have : playS V.p o = V.p := by simp [playS, k]
      rw [this]
      exact (hV W e).ext q2
  · obtain ⟨V, rfl, rfl, h, rfl, rfl⟩ := hV W e
    refine (rel_vw V W h hg o.name o.pass o.num o.other o.text ho.nm ho.ps ho.ot ho.tx ho.n0 ho.n1).mono fun e' w' hr => ⟨_, hr.1, ?_, hr.q ?_ rfl ?_⟩
    · obtain ⟨-, F', A', -, u, -⟩ := hr; exact u.kept hF
    · simp [playR, k]
    · simp [playS, k]
  · have hw := hV W e
    obtain ⟨V, rfl, rfl, h, rfl, rfl⟩ := hw
    refine (bor_any V W h hg o.name o.pass o.other o.num o.text ho.nm ho.ps ho.ot ho.tx ho.n0 ho.n1).mono fun e' w' hr => ⟨_, _, hr.1, hr.2.kept _, Ret.q (hV W e) hr.2 ?_ rfl ?_⟩
    · simp [playR, k]
    · simp [playS, k]
  · have hk : ∀ j : Int, 1 ≤ j → j ≤ 8 → ¬ o.kind = j := k
    refine Ret.q (hV W e) (Ext.refl _) ?_ rfl ?_
    · simp [playR, hk]
    · simp [playS, hk]
/-! ### a nil vault -/
def nilR (o : Op) : Res := if 1 ≤ o.kind ∧ o.kind ≤ 8 then ⟨0, ⟨#[]⟩, [], 1⟩ else ⟨0, ⟨#[]⟩, [], 0⟩
set_option maxHeartbeats 1000000 in
theorem enter_nil (n p : ByteArray) (w : World) : Calls Try.prog 67 #[.pointer none, .string n, .string p] w (Ret (.tuple #[.pointer none, .int .u64 0, .int .i64 1]) w) := by
  go_enter Try.func67, Try.ntmps67
  go_wp2_with (fail)
  go_ret3
  exact ⟨rfl, Ext.refl _⟩
set_option maxHeartbeats 1000000 in
theorem enrol_nil (n p : ByteArray) (w : World) : Calls Try.prog 37 #[.pointer none, .string n, .string p] w (Ret (.int .i64 1) w) := by
  go_enter Try.func37, Try.ntmps37
  go_wp2_with (fail)
  go_ret
  exact ⟨rfl, Ext.refl _⟩
set_option maxHeartbeats 1000000 in
theorem adv_nil (d : Int) (w : World) : Calls Try.prog 43 #[.pointer none, .int .i64 d] w (Ret (.int .i64 1) w) := by
  go_enter Try.func43, Try.ntmps43
  go_wp2_with (fail)
  go_ret
  exact ⟨rfl, Ext.refl _⟩
set_option maxHeartbeats 1000000 in
theorem seal_nil (n p k t : ByteArray) (un : Int) (w : World) : Calls Try.prog 38 #[.pointer none, .string n, .string p, .string k, .int .i64 un, .string t] w (Ret (.tuple #[.int .i64 0, .int .i64 1]) w) := by
  go_enter Try.func38, Try.ntmps38
  go_wp2_with (fail)
  (with_reducible refine (enter_nil _ _ _).mono ?_); rintro e w1 ⟨rfl, he1⟩
  go_wp2_with (fail)
  go_ret2
  exact ⟨rfl, he1⟩
set_option maxHeartbeats 1000000 in
theorem rev_nil (n p t : ByteArray) (num : Int) (w : World) : Calls Try.prog 40 #[.pointer none, .string n, .string p, .int .i64 num, .string t] w (Ret (.tuple #[.int .i64 0, .int .i64 1]) w) := by
  go_enter Try.func40, Try.ntmps40
  go_wp2_with (fail)
  (with_reducible refine (enter_nil _ _ _).mono ?_); rintro e w1 ⟨rfl, he1⟩
  go_wp2_with (fail)
  go_ret2
  exact ⟨rfl, he1⟩
set_option maxHeartbeats 1000000 in
theorem openi_nil (n p : ByteArray) (num ver : Int) (w : World) : Calls Try.prog 62 #[.pointer none, .string n, .string p, .int .i64 num, .int .i64 ver] w (Ret (.tuple #[.string ⟨#[]⟩, .int .i64 0, .int .i64 1]) w) := by
  go_enter Try.func62, Try.ntmps62
  go_wp2_with (fail)
  (with_reducible refine (enter_nil _ _ _).mono ?_); rintro e w1 ⟨rfl, he1⟩
  go_wp2_with (fail)
  go_ret3
  exact ⟨rfl, he1⟩
set_option maxHeartbeats 1000000 in
theorem open_nil (n p : ByteArray) (num ver : Int) (w : World) : Calls Try.prog 36 #[.pointer none, .string n, .string p, .int .i64 num, .int .i64 ver] w (Ret (.tuple #[.string ⟨#[]⟩, .int .i64 1]) w) := by
  go_enter Try.func36, Try.ntmps36
  go_wp2_with (fail)
  (with_reducible refine (openi_nil _ _ _ _ _).mono ?_); rintro e w1 ⟨rfl, he1⟩
  go_wp2_with (fail)
  go_ret2
  exact ⟨rfl, he1⟩
set_option maxHeartbeats 1000000 in
theorem list_nil (n p : ByteArray) (w : World) : Calls Try.prog 42 #[.pointer none, .string n, .string p] w (Ret (.tuple #[.slice none 0 0, .int .i64 1]) w) := by
  go_enter Try.func42, Try.ntmps42
  go_wp2_with (fail)
  (with_reducible refine (enter_nil _ _ _).mono ?_); rintro e w1 ⟨rfl, he1⟩
  go_wp2_with (fail)
  go_ret2
  exact ⟨rfl, he1⟩
set_option maxHeartbeats 1000000 in
theorem rel_nil (n p tu sh : ByteArray) (num : Int) (w : World) : Calls Try.prog 39 #[.pointer none, .string n, .string p, .int .i64 num, .string tu, .string sh] w (Ret (.int .i64 1) w) := by
  go_enter Try.func39, Try.ntmps39
  go_wp2_with (fail)
  (with_reducible refine (openi_nil _ _ _ _ _).mono ?_); rintro e w1 ⟨rfl, he1⟩
  go_wp2_with (fail)
  go_ret
  exact ⟨rfl, he1⟩
set_option maxHeartbeats 1000000 in
theorem bor_nil (n p fr sh : ByteArray) (num : Int) (w : World) : Calls Try.prog 41 #[.pointer none, .string n, .string p, .string fr, .int .i64 num, .string sh] w (Ret (.tuple #[.string ⟨#[]⟩, .int .i64 1]) w) := by
  go_enter Try.func41, Try.ntmps41
  go_wp2_with (fail)
  (with_reducible refine (enter_nil _ _ _).mono ?_); rintro e w1 ⟨rfl, he1⟩
  go_wp2_with (fail)
  go_ret2
  exact ⟨rfl, he1⟩
def NilQ (o : Op) (r : Res) (a : Option Addr) (c : Nat) (W w' : World) : Prop := r = nilR o ∧ a = none ∧ c = 0 ∧ Ext W w'
theorem play_nil (o : Op) (w : World) : Calls Try.prog 22 #[.pointer none, opval o] w (Ret (resval (nilR o) none 0) w) := by
  refine (play_walk (.pointer none) o w (NilQ o) (fun k W e => ?_) (fun k W e => ?_) (fun k W e => ?_) (fun k W e => ?_) (fun k W e => ?_) (fun k W e => ?_) (fun k W e => ?_) (fun k W e => ?_) (fun k W e => ?_)).mono fun e w' h => ?_
  · exact (enrol_nil _ _ W).mono fun e' w' hr => ⟨_, hr.1, hr.2.kept _, by simp [nilR, k], rfl, rfl, hr.2⟩
  · exact (adv_nil _ W).mono fun e' w' hr => ⟨_, hr.1, hr.2.kept _, by simp [nilR, k], rfl, rfl, hr.2⟩
  · exact (seal_nil _ _ _ _ _ W).mono fun e' w' hr => ⟨_, _, hr.1, hr.2.kept _, by simp [nilR, k], rfl, rfl, hr.2⟩
  · exact (rev_nil _ _ _ _ W).mono fun e' w' hr => ⟨_, _, hr.1, hr.2.kept _, by simp [nilR, k], rfl, rfl, hr.2⟩
  · exact (open_nil _ _ _ _ W).mono fun e' w' hr => ⟨_, _, hr.1, hr.2.kept _, by simp [nilR, k], rfl, rfl, hr.2⟩
  · exact (list_nil _ _ W).mono fun e' w' hr => ⟨[], _, none, 0, hr.1, hr.2.kept _, by simp [nilR, k], rfl, rfl, hr.2⟩
  · exact (rel_nil _ _ _ _ _ W).mono fun e' w' hr => ⟨_, hr.1, hr.2.kept _, by simp [nilR, k], rfl, rfl, hr.2⟩
  · exact (bor_nil _ _ _ _ _ W).mono fun e' w' hr => ⟨_, _, hr.1, hr.2.kept _, by simp [nilR, k], rfl, rfl, hr.2⟩
  · refine ⟨?_, rfl, rfl, Ext.refl _⟩
    unfold nilR
    rw [if_neg fun q => k o.kind q.1 q.2 rfl]
  · obtain ⟨r, a, c, W, w'', rfl, h1, h2, ⟨rfl, rfl, rfl, h3⟩, h8⟩ := h
    refine ⟨rfl, h8.os.trans (h3.os.trans h1.os), h8.tape.trans (h3.tape.trans h1.tape), h8.output.trans (h3.output.trans h1.output), Nat.le_trans h1.size (Nat.le_trans h3.size h8.size), fun k q => ?_⟩
    have hk : k < W.heap.size := by omega
    rw [h8.block k (Nat.lt_of_lt_of_le hk h3.size) (.inl q), Below.block h3 k hk, Below.block h1 k q]
/-! ### the same result twice -/
def En.zero : En := ⟨0, 0, 0, 0, ⟨#[]⟩, false⟩
/-- The i-th entry (a name of its own). -/
def eth (xs : List En) (i : Nat) : En := xs.getD i En.zero
theorem eth_eq (xs : List En) (i : Nat) (h : i < xs.length) : eth xs i = xs[i] := by simp [eth, h]
def EnC (w : World) (b o : Nat) (x : En) : Prop :=
  w.cell? ⟨b, o, none⟩ = some (.int .i64 x.num) ∧ w.cell? ⟨b, o + 1, none⟩ = some (.int .i64 x.ver) ∧ w.cell? ⟨b, o + 2, none⟩ = some (.int .i64 x.day) ∧ w.cell? ⟨b, o + 3, none⟩ = some (.int .i64 x.un) ∧
  w.cell? ⟨b, o + 4, none⟩ = some (.string x.kind) ∧ w.cell? ⟨b, o + 5, none⟩ = some (.bool x.gone)
theorem EnC.ext {w w' : World} {b o : Nat} {x : En} (h : EnC w b o x) (e : Ext w w') : EnC w' b o x := by
  obtain ⟨c0, c1, c2, c3, c4, c5⟩ := h
  exact ⟨e.cell c0, e.cell c1, e.cell c2, e.cell c3, e.cell c4, e.cell c5⟩
/-- Under this head (nil too) lie these entries. -/
def Ents (w : World) (a : Option Addr) (xs : List En) : Prop := xs = [] ∨ ∃ b o, a = some ⟨b, o, none⟩ ∧ ∀ i, i < xs.length → EnC w b (o + i * 6) (eth xs i)
theorem Ents.ext {w w' : World} {a : Option Addr} {xs : List En} (h : Ents w a xs) (e : Ext w w') : Ents w' a xs := by
  rcases h with h | ⟨b, o, h1, h2⟩
  · exact .inl h
  · exact .inr ⟨b, o, h1, fun i hi => (h2 i hi).ext e⟩
theorem Ents.at {w : World} {a : Option Addr} {xs : List En} (h : Ents w a xs) (i : Nat) (hi : i < xs.length) : ∃ b o, a = some ⟨b, o, none⟩ ∧ (∀ W, Ext w W → EnC W b (o + i * 6) (eth xs i)) := by
  rcases h with rfl | ⟨b, o, h1, h2⟩
  · simp at hi
  · exact ⟨b, o, h1, fun W e => (h2 i hi).ext e⟩
theorem OwnE.ents {w : World} {B : Nat} {a : Option Addr} {n c : Nat} {xs : List En} (h : OwnE w B (.slice a n c) xs) : Ents w a xs := by
  cases xs with
  | nil => exact .inl rfl
  | cons x0 xs0 =>
    obtain ⟨g, ha, -, -, -⟩ := OwnF.cell encs_len h 0 (by simp)
    refine .inr ⟨g, 0, ha, fun i hi => ?_⟩
    obtain ⟨g', ha', -, -, hc⟩ := OwnF.cell encs_len h i hi
    rw [ha] at ha'
    simp only [Option.some.injEq, Addr.mk.injEq, and_true] at ha'
    subst ha'
    rw [eth_eq _ _ hi, Nat.zero_add]
    exact ⟨hc 0 (by omega), hc 1 (by omega), hc 2 (by omega), hc 3 (by omega), hc 4 (by omega), hc 5 (by omega)⟩
end Go.Proofs.Ytlahejakcgoheaa
