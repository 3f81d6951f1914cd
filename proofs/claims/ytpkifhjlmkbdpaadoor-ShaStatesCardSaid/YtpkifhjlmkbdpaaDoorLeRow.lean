/- From the reckoner's answer to a call's contract, as a row asks for it: every block that is there is never written. -/
import Derived.Test.YtpkifhjlmkbdpaaDoorLeCode
import Derived.Below
set_option linter.unusedVariables false
set_option linter.unusedSimpArgs false
namespace Go.LE
open Go.RowKit
variable {P : Program} {w : World}

/-- every row of cells that is there is taken as never written -/
def allImm (w : World) : Imm := fun b => match w.heap[b]? with
  | some (.cells vs _ _) => some vs.toList
  | _ => none

def noPlaces : Places := fun _ => none

theorem sim_all (w : World) : Sim (allImm w) noPlaces (inHeap []) w := by
  refine ⟨?_, ?_, ?_⟩
  · intro n cs h; simp [inHeap] at h
  · intro n m cs ds b o s o' s' h; simp [inHeap] at h
  · intro b cs h
    unfold allImm at h
    split at h
    · rename_i vs T fz hb
      obtain rfl := Option.some.inj h
      exact ⟨vs, T, fz, hb, rfl⟩
    · cases h

/-- a call's contract out of an evaluation -/
theorem calls_of_F {C : Ctx} (hC : ∀ f lf, C.fns f = some lf → compF P f = some lf) {k : Nat} {f : FuncId} {args : List LV} {res : CallRes} (h : F C k f args [] = some res) {vals : List Value}
    (hg : Globs C.gl (allImm w)) (hr : Rep (allImm w) noPlaces args vals) :
    Calls P f vals.toArray w fun e w' => ∃ v R' p', e = .returned v ∧ Rep1 R' p' res.1 v ∧ Sim R' p' (outHeap res.2.1 res.2.2) w' ∧ Ext (allImm w) noPlaces (inHeap []) w R' p' (outHeap res.2.1 res.2.2) w' ∧ Below w.heap.size w w' := by
  obtain ⟨_, h2⟩ := (F_sound hC k f args [] res h).2 (allImm w) noPlaces w vals hg hr (sim_all w) (fun _ _ => rfl)
  refine h2.mono ?_
  rintro e w' ⟨v, R', p', he, hv, hs, hx, _⟩
  refine ⟨v, R', p', he, hv, hs, hx, ⟨hx.io.1, hx.io.2.2, hx.io.2.1, hx.size, fun b hb => hx.kept b hb ?_⟩⟩
  rintro ⟨n, cs, o, s, h, _⟩
  simp [inHeap] at h

/-- where a plain value comes of it -/
theorem calls_plain {C : Ctx} (hC : ∀ f lf, C.fns f = some lf → compF P f = some lf) {k : Nat} {f : FuncId} {args : List LV} {x : Value} {passed : List (Option Cells)} {news : List Cells}
    (h : F C k f args [] = some (.v x, passed, news)) {vals : List Value} (hg : Globs C.gl (allImm w)) (hr : Rep (allImm w) noPlaces args vals) :
    Calls P f vals.toArray w fun e w' => e = .returned x ∧ Below w.heap.size w w' := by
  refine (calls_of_F hC h hg hr).mono ?_
  rintro e w' ⟨v, R', p', he, hv, _, _, hb⟩
  cases hv
  exact ⟨he, hb⟩

theorem globs_none {R : Imm} : Globs (fun _ => none) R := fun _ _ h => by cases h

/-! ### a table of code -/

def look : List (Nat × LFun) → Nat → Option LFun
  | [], _ => none
  | (i, l) :: t, f => match Nat.beq f i with
    | true => some l
    | false => look t f

theorem look_ok {P : Program} : ∀ (t : List (Nat × LFun)), (∀ e ∈ t, compF P e.1 = some e.2) → ∀ f lf, look t f = some lf → compF P f = some lf := by
  intro t
  induction t with
  | nil => intro _ f lf h; cases h
  | cons e t ih =>
    intro h f lf hl
    obtain ⟨i, l⟩ := e
    simp only [look] at hl
    split at hl
    · rename_i hb
      obtain rfl := Option.some.inj hl
      rw [Nat.eq_of_beq_eq_true hb]
      exact h (i, l) (by simp)
    · exact ih (fun e he => h e (by simp [he])) f lf hl

end Go.LE
