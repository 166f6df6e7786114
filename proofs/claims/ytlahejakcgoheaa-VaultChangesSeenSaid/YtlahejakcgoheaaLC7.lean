/-
  Base words: the law VaultChangesSeen, words for bytes of a Body that are changed.
-/
import Derived.Test.YtlahejakcgoheaaLC5
import Derived.Test.YtlahejakcgoheaaLD
set_option linter.unusedVariables false
set_option linter.unusedSimpArgs false
namespace Go.Proofs.Ytlahejakcgoheaa
open Go.RowKit Go.Maps
theorem reCh_next (ls : List Lk) (k : Nat) (h : k < ls.length) : lastB 7 ((reCh 7 ls).take (k + 1)) = chainN (lastB 7 ((reCh 7 ls).take k)) ls[k] := by
  have hl : k < (reCh 7 ls).length := by rw [reCh_len]; exact h
  rw [lastB_take _ 7 k hl]
  have h1 := reCh_step ls 7 k h
  rw [List.getElem?_eq_getElem hl] at h1
  rw [Option.some.inj h1]; rfl
theorem LksOk.set {ys : List Lv} (h : LksOk ys) (i : Nat) (y : Lv) (hy : LkOk y.l) : LksOk (ys.set i y) := fun j hj => by
  have hj2 : j < ys.length := by rw [List.length_set] at hj; exact hj
  rw [lth_eq _ _ hj, List.getElem_set]
  split
  · exact hy
  · have := h j hj2
    rwa [lth_eq _ _ hj2] at this
theorem LkOk.withCh {l : Lk} (h : LkOk l) {n : Nat} (hn : n < 18446744073709551616) : LkOk (withCh l n) := ⟨h.op, h.cu, h.ki, h.nu0, h.nu1, h.ve0, h.ve1, h.da0, h.da1, h.un0, h.un1, h.bo, h.tag, hn⟩
def bodyY (x : Lv) (bs : List UInt8) (at0 j : Nat) : Lv := ⟨{ x.l with bo := xorK x.l.bo bs at0 j }, x.ba, x.bc⟩
end Go.Proofs.Ytlahejakcgoheaa
