import Derived.Test.YtjpgignbjkgjiaaA17
set_option linter.unusedVariables false
set_option linter.unusedSimpArgs false
namespace Go.Proofs.Ytjpgignbjkgjiaa
open Go.RowKit
/-- What a search gives back. -/
def solV (st : St) (a : Option Addr) (c : Nat) : Value := match st with
  | none => .tuple #[.slice none 0 0, .int .i64 0, .int .i64 101]
  | some (p, k) => .tuple #[.slice a p.length c, .int .i64 k, .int .i64 0]
def solI (st : St) (w : World) (a : Option Addr) : Prop := match st with | none => True | some (p, _) => Ints w a p
def RetSol (st : St) (w : World) (e : Ending) (w' : World) : Prop := ∃ a c, e = .returned (solV st a c) ∧ Ext w w' ∧ solI st w' a
theorem SLsX.mono {X Y : Nat} {w : World} {a : Option Addr} {ss : List SL} (h : SLsX X w a ss) (hX : w.heap.size ≤ X) (hY : w.heap.size ≤ Y) : SLsX Y w a ss := by
  obtain ⟨h1, h2⟩ := h
  refine ⟨?_, fun i hi => (h2 i hi).ints.x hY⟩
  rcases h1 with h | ⟨b, o, q1, _, q2⟩
  · exact .inl h
  · by_cases hne : ss = []
    · exact .inl hne
    · have := lt_of_cell (q2 0 (List.length_pos_iff.2 hne))
      exact .inr ⟨b, o, q1, by simp at this; omega, q2⟩
set_option maxHeartbeats 1000000 in
theorem solve_any (ha : Hal) (x : HP) (l : List Camp) (la : Option Addr) (lc : Nat) (ss : List SL) (a : Option Addr) (c : Nat) (w : World) (hv : VH ha l) (hh : HallAt w ha x) (hl : Camps w la l) (hlen : ss.length = l.length) (hbd : Bd (lsts ss)) (hss : SLsX w.heap.size w a ss) :
    Calls Try.prog 60 #[hval ha x, .slice la l.length lc, .slice a ss.length c] w (RetSol (placeS ha l l.length (lsts ss) none) w) := by
  have HV := Lib.hid hv; have HH := Lib.hid hh; have HL := Lib.hid hl; have HLEN := Lib.hid hlen; have HBD := Lib.hid hbd; have HSS := Lib.hid hss
  clear hv hh hl hlen hbd hss
  obtain ⟨sa, sc, ea, ec⟩ := x
  go_enter Try.func60, Try.ntmps60
  go_wp2_with (fail)
  generalize hw2 : World.alloc _ _ = w2
  obtain ⟨he, o1, o2, -⟩ := alloc2 hw2
  clear hw2 o1
  obtain ⟨bs, hbs⟩ : ∃ bs, bs = w.heap.size + 1 := ⟨_, rfl⟩
  rw [← hbs] at o2
  rw [← hbs]
  have hle : w.heap.size ≤ bs := by omega
  clear hbs
  have hp := place_any ha ⟨sa, sc, ea, ec⟩ l la lc bs HV.out l.length 0 (by omega) ss a c none w2 HLEN.out
    ⟨(HH.out.st.x hle).ext he, (HH.out.en.x hle).ext he, (HL.out.x hle).extX he.x⟩ HBD.out ((HSS.out.mono (Nat.le_refl _) hle).ext he) ⟨_, o2, rfl⟩
  rw [show ((0 : Nat) : Int) = 0 from rfl] at hp
  (with_reducible refine hp.mono ?_); clear hp; rintro e w3 ⟨rfl, hx, hs⟩
  have hxx := (he.x.trans hx).ext hle
  clear o2 hx
  generalize placeS ha l l.length (lsts ss) none = st at *
  obtain ⟨bv, hblk, hbest⟩ := hs
  obtain ⟨s0, s1, s2, s3, s4, s5, s6, s7⟩ := obj_cells8 hblk
  clear s0 s1 s2 s3 s4 hblk
  have hrr := Ext.refl w3
  cases st with
  | none =>
    simp only [stFound, stCost, Option.isSome_none] at s6 s7
    go_wp2_with (fail)
    go_ret3
    exact ⟨none, 0, rfl, hxx, trivial⟩
  | some pc =>
    obtain ⟨p, k⟩ := pc
    obtain ⟨a', c', rfl, hix⟩ := hbest
    simp only [stFound, stCost, Option.isSome_some] at s6 s7
    go_wp2_with (fail)
    refine wp_region_ext (by kernel_rfl) (by kernel_rfl) hrr ?_
    repeat (go_big_quiet_step (fail))
    refine wpQuiet_nil ?_
    rintro _ ⟨nq, rfl⟩
    go_wp2_with (fail)
    go_ret3
    exact ⟨a', c', rfl, hxx.trans nq.ok, (hix.ext nq.ok).ints⟩
/-- As Ints, in blocks of numbers alone. -/
def IntsT (w : World) (a : Option Addr) (xs : List Int) : Prop :=
  xs = [] ∨ ∃ b o cs fz, a = some ⟨b, o, none⟩ ∧ w.heap[b]? = some (.cells cs 3 fz) ∧ ∀ i, i < xs.length → w.cell? ⟨b, o + i, none⟩ = some (.int .i64 (nth xs i))
theorem IntsT.ints {w : World} {a : Option Addr} {xs : List Int} (h : IntsT w a xs) : Ints w a xs := by
  rcases h with h | ⟨b, o, cs, fz, h1, _, h2⟩
  · exact .inl h
  · exact .inr ⟨b, o, h1, h2⟩
theorem OwnI.intsT {w : World} {B : Nat} {a : Option Addr} {n c : Nat} {xs : List Int} (h : OwnI w B (.slice a n c) xs) : IntsT w a xs := by
  rcases h.ints.1 with h1 | ⟨b, o, h1, h2⟩
  · exact .inl h1
  · subst h1
    rcases h.2 with ⟨hv, _⟩ | ⟨g, cap, cur, hv, hg, hh, _⟩
    · simp at hv
    · simp only [Value.slice.injEq, Option.some.injEq, Addr.mk.injEq, and_true] at hv
      obtain ⟨⟨rfl, rfl⟩, -, -⟩ := hv
      exact .inr ⟨b, 0, cur, (0, 0), rfl, hh, h2⟩
theorem IntsT.ext {w w' : World} {a : Option Addr} {xs : List Int} (h : IntsT w a xs) (e : Ext w w') : IntsT w' a xs := by
  rcases h with h | ⟨b, o, cs, fz, h1, hb, h2⟩
  · exact .inl h
  · exact .inr ⟨b, o, cs, fz, h1, e.block hb, fun i hi => e.cell (h2 i hi)⟩
theorem IntsT.grown {w w' : World} {a : Option Addr} {xs : List Int} {v : Value} {B n sz : Nat} {rs : List Value} (h : IntsT w a xs) (hv : w.ownsRow B 22 sz v n rs) (hg : w.grownBy w' v.ownBlock) : IntsT w' a xs := by
  rcases h with h | ⟨b, o, cs, fz, h1, hb, h2⟩
  · exact .inl h
  · have hne : some b ≠ v.ownBlock := by
      intro e
      rcases hv.2 with ⟨rfl, _⟩ | ⟨g, cap, cur, rfl, _, hh, _⟩
      · cases e
      · simp only [Value.ownBlock, Option.some.injEq] at e
        subst e
        rw [hh] at hb
        simp at hb
    have hbl := hg.block b (lt_of_block hb) hne
    refine .inr ⟨b, o, cs, fz, h1, hbl.trans hb, fun i hi => ?_⟩
    rw [World.cell?_of_block (w := w) hbl]; exact h2 i hi
end Go.Proofs.Ytjpgignbjkgjiaa
