/-
  The calls of the law's examples, each with what it answers: orders and a book.
-/
import Derived.Test.YtplbofhgmflnlaaGreatKA
set_option linter.unusedVariables false
set_option linter.unusedSimpArgs false
namespace Go.Proofs.YtplbofhgmflnlaaGreat
open Go.RowKit
/-- The plan of one factor. -/
def pk2 (n : Nat) : Pw := ⟨[⟨2, 3, false⟩], some ⟨n, 0, none⟩, 1, [], none, 0⟩
def ks2 (p q : Nat) : List Se := [⟨⟨some ⟨p, 0, none⟩, [0], 1⟩, 0⟩, ⟨⟨some ⟨q, 0, none⟩, [1], 1⟩, 0⟩]
theorem pk2_b (n : Nat) : PlanB (pk2 n) := ⟨by simp [pk2], by simp [pk2], by simp [pk2]⟩
theorem ks2_l (p q : Nat) : ∀ i, i < (ks2 p q).length → (eth (ks2 p q) i).lv.xs.length ≤ 9223372036854775807 := by
  intro i hi
  simp only [ks2, List.length_cons, List.length_nil] at hi
  match i, hi with
  | 0, _ => simp [ks2, eth]
  | 1, _ => simp [ks2, eth]
theorem pk2_ok (n p q : Nat) : checkE (pk2 n) (ks2 p q) = 0 := by kernel_rfl
theorem cheapW2 (n p q : Nat) : cheapW (costM (pk2 n).fs (ks2 p q)) 2 = [0, 1] := by kernel_rfl
theorem cheapF2 (n p q : Nat) : (cheapF (costM (pk2 n).fs (ks2 p q)) 2).2 = 3 := by kernel_rfl
theorem edTo2 (n p q : Nat) : edTo (costM (pk2 n).fs (ks2 p q)) 2 = [⟨1, 0, 3⟩] := by kernel_rfl
theorem ordS2 (n p q : Nat) : ordS (pk2 n) (ks2 p q) 5 = [1, 0] := by
  unfold ordS
  obtain ⟨K, hK⟩ : ∃ K : Nat → List Int, K = fun i => gL (pk2 n).fs (eth (ks2 p q) i) := ⟨_, rfl⟩
  show ordL (fun i => gL (pk2 n).fs (eth (ks2 p q) i)) 2 5 = [1, 0]
  have h2 : sNs (fun i => gL (pk2 n).fs (eth (ks2 p q) i)) 2 = [0] := by
    unfold sNs
    rw [show ddK (KB fun i => gL (pk2 n).fs (eth (ks2 p q) i)) 2 = [0] by kernel_rfl]
    simp [srt]
  have h3 : ordK (fun i => gL (pk2 n).fs (eth (ks2 p q) i)) 2 5 = [gL (pk2 n).fs (eth (ks2 p q) 0)] := by
    unfold ordK
    rw [h2]
    show List.flatMap (shB (fun i => gL (pk2 n).fs (eth (ks2 p q) i)) 2 5) [0] = _
    kernel_rfl
  unfold ordL
  rw [h3]
  show List.flatMap (shM (fun i => gL (pk2 n).fs (eth (ks2 p q) i)) 2 5) [gL (pk2 n).fs (eth (ks2 p q) 0)] = [1, 0]
  kernel_rfl
theorem kCheap (n p q s : Nat) (w : World) (h : PlanAt w (pk2 n)) (hs : SetsAt w (some ⟨s, 0, none⟩) (ks2 p q)) : Calls Tryz.prog 18 #[.agg #[.slice (some ⟨n, 0, none⟩) 1 1, .slice none 0 0], .slice (some ⟨s, 0, none⟩) 2 2] w (fun e w' => ∃ g c, e = .returned (.tuple #[.slice (some ⟨g, 0, none⟩) 2 c, .int .i64 3, .int .i64 0]) ∧ Ext w w' ∧
    (∀ W, Ext w' W → W.cell? ⟨g, 0, none⟩ = some (.int .i64 0))) := by
  refine (cheapest_ok (pk2 n) (some ⟨s, 0, none⟩) (ks2 p q) 2 w h (pk2_b n) hs (by simp [ks2]) (by simp [ks2]) (ks2_l p q) (pk2_ok n p q)).mono ?_
  rintro e w' ⟨a, c, rfl, he, ho⟩
  have e1 : cheapW (costM (pk2 n).fs (ks2 p q)) (ks2 p q).length = [0, 1] := cheapW2 n p q
  have e2 : (cheapF (costM (pk2 n).fs (ks2 p q)) (ks2 p q).length).2 = 3 := cheapF2 n p q
  rw [e1] at ho ⊢
  rw [e2]
  obtain ⟨g, hg⟩ := own_addr ho (by simp)
  subst hg
  obtain ⟨hi, -, -⟩ := ho.ints
  obtain ⟨b', o', hb', hq⟩ := hi.at 0 (by simp)
  simp only [Option.some.injEq, Addr.mk.injEq, and_true] at hb'
  obtain ⟨rfl, rfl⟩ := hb'
  exact ⟨g, c, rfl, he, hq⟩
theorem kLeast (n p q s : Nat) (w : World) (h : PlanAt w (pk2 n)) (hs : SetsAt w (some ⟨s, 0, none⟩) (ks2 p q)) : Calls Tryz.prog 20 #[.agg #[.slice (some ⟨n, 0, none⟩) 1 1, .slice none 0 0], .slice (some ⟨s, 0, none⟩) 2 2] w (Ret (.tuple #[.int .i64 3, .int .i64 0]) w) := by
  refine (least_ok sortEd sortEdN (pk2 n) (some ⟨s, 0, none⟩) (ks2 p q) 2 w h (pk2_b n) hs (by simp [ks2]) (by simp [ks2]) (ks2_l p q) (pk2_ok n p q)).mono ?_
  rintro e w' ⟨es, hp, -, rfl, he⟩
  have e1 : edTo (costM (pk2 n).fs (ks2 p q)) (ks2 p q).length = [⟨1, 0, 3⟩] := edTo2 n p q
  rw [e1, List.perm_singleton] at hp
  subst hp
  exact ⟨rfl, he⟩
abbrev em : ByteArray := ⟨#[]⟩
def ptk0 : List Pt := [⟨0, 1, 0, em⟩, ⟨0, 0, 0, em⟩]
def ptk1 : List Pt := [⟨0, 1, 0, em⟩, ⟨0, 0, 1, em⟩]
def leak : ByteArray := ⟨#[108, 101, 97, 107]⟩
def ptk2 : List Pt := [⟨0, 1, 2, leak⟩, ⟨0, 0, 1, em⟩]
theorem newPts2 (n p q : Nat) : newPts (pk2 n) (ks2 p q) 5 = ptk0 := by
  have h1 : ptsTo (ks2 p q) [1, 0] 2 = ptk0 := by kernel_rfl
  rw [← h1]
  show ptsTo (ks2 p q) (ordS (pk2 n) (ks2 p q) 5) 2 = _
  rw [ordS2]
theorem kBook (n p q s : Nat) (w : World) (h : PlanAt w (pk2 n)) (hs : SetsAt w (some ⟨s, 0, none⟩) (ks2 p q)) : Calls Tryz.prog 52 #[.agg #[.slice (some ⟨n, 0, none⟩) 1 1, .slice none 0 0], .slice (some ⟨s, 0, none⟩) 2 2, .int .u64 5] w (fun e w' => ∃ x, e = .returned (.tuple #[bkV x, .int .i64 0]) ∧ Ext w w' ∧ Hid (BkAt w' w.heap.size x ptk0 [1, 0])) := by
  refine (newBook_ok (pk2 n) (some ⟨s, 0, none⟩) (ks2 p q) 2 5 w h (pk2_b n) hs (ks2_l p q) (pk2_ok n p q) (by omega)).mono ?_
  rintro e w' ⟨gb, V2, V6, rfl, he, hr⟩
  rw [newPts2, ordS2] at hr
  obtain ⟨pa, pc, h2⟩ := slice_row (RowsAt.own hr (rwP V2 ptk0) (by simp))
  obtain ⟨oa, oc, h6⟩ := slice_row (RowsAt.own hr (rwI V6 [1, 0]) (by simp))
  simp only at h2 h6
  subst h2 h6
  exact ⟨⟨gb, pa, pc, oa, oc⟩, rfl, he, Lib.hid hr⟩
theorem inB2 (l : List Pt) (h : l.length = 2) : InB l.length [1, 0] := by
  intro y hy
  rw [h]
  simp only [List.mem_cons, List.mem_nil_iff, or_false] at hy
  rcases hy with rfl | rfl
  · exact ⟨1, by omega, rfl⟩
  · exact ⟨0, by omega, rfl⟩
theorem kNext (B : Nat) (x : Bp) (w : World) (h : BkAt w B x ptk0 [1, 0]) : Calls Tryz.prog 62 #[bkV x] w (Ret (.tuple #[.int .i64 1, .bool true]) w) := by
  refine (Next_any B x ptk0 [1, 0] w h (inB2 _ rfl) (by simp)).mono ?_
  rintro e w' ⟨rfl, he⟩
  exact ⟨by rw [show openL ptk0 [1, 0] = [1, 0] by kernel_rfl]; rfl, he⟩
/-- What a call of a book leaves. -/
def Bkp (B : Nat) (w w' : World) : Prop := ∀ w0, Ext w0 w → w0.heap.size ≤ B → Ext w0 w'
theorem Bkp.of {B g : Nat} {w w' : World} (h : ExtX g w w') (hg : B ≤ g) : Bkp B w w' := fun w0 e hb => (e.x.trans h).ext (by omega)
theorem kTake0 (B : Nat) (x : Bp) (w : World) (h : BkAt w B x ptk0 [1, 0]) : Calls Tryz.prog 54 #[bkV x, .int .i64 0] w (fun e w' => e = .returned (.int .i64 61) ∧ Hid (Bkp B w w' ∧ BkAt w' B x ptk0 [1, 0])) := by
  obtain ⟨gp, hgp, hB, -⟩ := h.pt 0 (by simp [ptk0])
  refine (Take_any B x ptk0 [1, 0] 0 gp w h (by simp [ptk0]) hgp (inB2 _ rfl) (by simp) 1 rfl (by simp)).mono ?_
  have e1 : takeE ptk0 [1, 0] 0 = 61 := by kernel_rfl
  rintro e w' ⟨rfl, he, hb⟩
  rw [e1] at hb ⊢
  exact ⟨rfl, Lib.hid ⟨Bkp.of he hB, hb⟩⟩
theorem kTake1 (B : Nat) (x : Bp) (w : World) (h : BkAt w B x ptk0 [1, 0]) : Calls Tryz.prog 54 #[bkV x, .int .i64 1] w (fun e w' => e = .returned (.int .i64 0) ∧ Hid (Bkp B w w' ∧ BkAt w' B x ptk1 [1, 0])) := by
  obtain ⟨gp, hgp, hB, -⟩ := h.pt 0 (by simp [ptk0])
  refine (Take_any B x ptk0 [1, 0] 1 gp w h (by simp [ptk0]) hgp (inB2 _ rfl) (by simp) 0 rfl (by simp)).mono ?_
  have e1 : takeE ptk0 [1, 0] 1 = 0 := by kernel_rfl
  rintro e w' ⟨rfl, he, hb⟩
  rw [e1] at hb ⊢
  exact ⟨rfl, Lib.hid ⟨Bkp.of he hB, hb⟩⟩
theorem kDecl (B : Nat) (x : Bp) (w : World) (h : BkAt w B x ptk1 [1, 0]) : Calls Tryz.prog 56 #[bkV x, .int .i64 0, .string ⟨#[108, 101, 97, 107]⟩] w (fun e w' => e = .returned (.int .i64 0) ∧ Hid (Bkp B w w' ∧ BkAt w' B x ptk2 [1, 0])) := by
  obtain ⟨gp, hgp, hB, -⟩ := h.pt 0 (by simp [ptk1])
  refine (Declare_any B x ptk1 [1, 0] 0 gp leak w h (by simp [ptk1]) hgp (by decide)).mono ?_
  have e1 : declE ptk1 0 leak = 0 := by kernel_rfl
  rintro e w' ⟨rfl, he, hb⟩
  rw [e1] at hb ⊢
  exact ⟨rfl, Lib.hid ⟨Bkp.of he hB, hb⟩⟩
theorem kDone (B : Nat) (x : Bp) (w : World) (h : BkAt w B x ptk2 [1, 0]) : Calls Tryz.prog 64 #[bkV x] w (Ret (.bool true) w) := by
  refine (Done_any B x ptk2 [1, 0] w h (inB2 _ rfl) (by simp)).mono ?_
  rintro e w' ⟨rfl, he⟩
  exact ⟨by rw [show openL ptk2 [1, 0] = [] by kernel_rfl]; rfl, he⟩
end Go.Proofs.YtplbofhgmflnlaaGreat
