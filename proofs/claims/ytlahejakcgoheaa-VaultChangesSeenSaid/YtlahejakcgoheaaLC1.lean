/-
  Base words: a vault beside a map of passphrases.
-/
import Derived.Test.YtlahejakcgoheaaQG
import Derived.Test.YtlahejakcgoheaaLA
import Derived.Test.YtlahejakcgoheaaLW
set_option linter.unusedVariables false
set_option linter.unusedSimpArgs false
namespace Go.Proofs.Ytlahejakcgoheaa
open Go.RowKit Go.Maps
def passM (P : List (ByteArray × ByteArray)) : List (Value × Value) := P.map fun q => (.string q.1, .string q.2)
/-- A vault in block b and a map of passphrases in block g, made since w0; the vault writes no block from B on. -/
def VM (w0 w : World) (b g : Nat) (S : PV) (P : List (ByteArray × ByteArray)) (B : Nat) : Prop :=
  ∃ F A, VaultAt w b S F A ∧ Ext w0 w ∧ (∀ k ∈ F, w0.heap.size ≤ k ∧ k < B) ∧ (∀ k ∈ A, w0.heap.size ≤ k) ∧ MapAt 9 w g (passM P) ∧ g ∉ F ∧ g ∉ A ∧ w0.heap.size ≤ g
section
variable {w0 w : World} {b g : Nat} {S : PV} {P : List (ByteArray × ByteArray)} {B : Nat}
theorem VM.old (h : VM w0 w b g S P B) : Ext w0 w := by obtain ⟨F, A, h1, h2, -⟩ := h; exact h2
theorem VM.fresh (h : VM w0 w b g S P B) : FreshV w0 w b S := by
  obtain ⟨F, A, h1, h2, h3, h4, -⟩ := h; exact ⟨F, A, h1, h2, fun k q => (h3 k q).1, h4⟩
theorem VM.map (h : VM w0 w b g S P B) : MapAt 9 w g (passM P) := by obtain ⟨F, A, h1, h2, h3, h4, h5, -⟩ := h; exact h5
theorem VM.mge (h : VM w0 w b g S P B) : w0.heap.size ≤ g := by obtain ⟨F, A, h1, h2, h3, h4, h5, h6, h7, h8⟩ := h; exact h8
theorem VM.ext {w' : World} (h : VM w0 w b g S P B) (e : Ext w w') : VM w0 w' b g S P B := by
  obtain ⟨F, A, h1, h2, h3, h4, h5, h6⟩ := h
  exact ⟨F, A, h1.ext e, h2.trans e, h3, h4, h5.ext e, h6⟩
theorem VM.cap (h : VM w0 w b g S P B) : VM w0 w b g S P w.heap.size := by
  obtain ⟨F, A, h1, h2, h3, h4, h5⟩ := h
  exact ⟨F, A, h1, h2, fun k q => ⟨(h3 k q).1, h1.lt.1 k q⟩, h4, h5⟩
theorem VM.of {w1 : World} (h : FreshV w0 w b S) (hw : w1 = w.alloc (.map #[] 0)) : VM w0 w1 b w.heap.size S [] w.heap.size := by
  subst hw
  obtain ⟨F, A, h1, h2, h3, h4⟩ := h
  have l := h1.lt
  exact ⟨F, A, h1.ext ((Ext.refl _).alloc _), h2.alloc _, fun k q => ⟨h3 k q, l.1 k q⟩, h4, MapAt.made 9 w, fun q => Nat.lt_irrefl _ (l.1 _ q), fun q => Nat.lt_irrefl _ (l.2 _ q), h2.size⟩
theorem play_vm (h : VM w0 w b g S P B) (hg : Good S) (o : Op) (ho : OpOk o) :
    Calls Try.prog 22 #[ptr b, opval o] w (fun e w' => ∃ a c, e = .returned (resval (playR S o) a c) ∧ VM w0 w' b g (playS S o) P w'.heap.size ∧ Kept B w w') := by
  obtain ⟨F, A, h1, h2, h3, h4, h5, h6, h7, h8⟩ := h
  refine (play_any b S F A o w h1 hg ho).mono fun e w' hr => ?_
  obtain ⟨a, c, he, hl, F', A', g1, g2, g3, g4⟩ := hr
  have hs := h2.size
  have hgl := h5.lt
  refine ⟨a, c, he, ⟨F', A', g1, g2.fresh h2 (fun k q => (h3 k q).1), fun k q => ⟨?_, g1.lt.1 k q⟩, fun k q => ?_, h5.of_block (g2.block g hgl h6), fun q => ?_, fun q => ?_, h8⟩, g2.kept fun k q => (h3 k q).2⟩
  · rcases g3 k q with q | q
    · exact (h3 k q).1
    · omega
  · rcases g4 k q with q | q
    · exact h4 k q
    · omega
  · rcases g3 g q with q | q
    · exact h6 q
    · omega
  · rcases g4 g q with q | q
    · exact h7 q
    · omega
/-- A passphrase more. -/
theorem VM.store (h : VM w0 w b g S P B) (n p : ByteArray) (hn : n.size ≤ maxLen) (hm : ∀ q ∈ P, q.1 ≠ n) (hl : P.length ≤ 1000) :
    ∃ w', (Instr.mapUpdate 73 (.map (some g)) (.string n) (.string p)).run Try.prog w = .ok () w' ∧ VM w0 w' b g S (P ++ [(n, p)]) B := by
  obtain ⟨F, A, h1, h2, h3, h4, h5, h6, h7, h8⟩ := h
  obtain ⟨w', r1, r2, r3⟩ := h5.store_new law9 Try.underlying73 (key9 n hn) (val := .string p) (fun q hq e => by
    obtain ⟨m, hm2, rfl⟩ := List.mem_map.1 hq
    simp only [Value.string.injEq] at e
    exact hm m hm2 e) (by simp only [passM, List.length_map, maxLen]; omega)
  refine ⟨w', r1, F, A, ?_, h2.turned r3 h8, h3, h4, by simpa [passM] using r2, h6, h7, h8⟩
  exact h1.frame (fun k q => r3.block k fun e => h6 (e ▸ q)) (fun k q => r3.block k fun e => h7 (e ▸ q)) (Nat.le_of_eq r3.size.symm)
theorem VM.look (h : VM w0 w b g S P B) {n p : ByteArray} (hn : n.size ≤ maxLen) (hm : (n, p) ∈ P) : (Instr.lookup 73 (.map (some g)) (.string n) false).run Try.prog w = .ok (.string p) w :=
  h.map.look_yes law9 Try.underlying73 (key9 n hn) (List.mem_map.2 ⟨(n, p), hm, rfl⟩) false
end
end Go.Proofs.Ytlahejakcgoheaa
