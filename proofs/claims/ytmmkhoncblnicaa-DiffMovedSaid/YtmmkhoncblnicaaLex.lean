/- Blocks of a round are forgotten. Condition: none. -/
import Derived.Test.YtmmkhoncblnicaaAbL
set_option linter.all false
namespace Ab
/-- Behind a round. -/
def Lexd (m : Nat) (Q : Ex → St → Prop) : Ex → St → Prop := fun e s => match e with
  | .ret => Q .ret s
  | e => (s.vars.all (lowv m) = true ∧ lowB m m s.σ = true ∧ (match s.fl with | some _ => false | none => true) = true) ∧ Q e { s with σ := s.σ.take m }
theorem WK_lexd {L : CE} {c : IC} {vars : List AV} {fl : Option (Nat × AV)} {σ : List Blk} {Q : Ex → St → Prop} {m : Nat} (hm : σ.length = m) (h : WK L c vars fl σ (Lexd m Q)) : WK L (.lex c) vars fl σ Q := by
  subst hm
  rw [WK_lex]
  obtain ⟨n, e, s', h1, h2⟩ := WK_s h
  cases e with
  | ret => exact ⟨n, .ret, s', by simp only [exec, h1], h2⟩
  | nor =>
    obtain ⟨⟨q1, q2, q3⟩, q4⟩ := h2
    refine ⟨n, .nor, _, ?_, q4⟩
    simp only [exec, h1]
    rw [if_pos (by simp only [Bool.and_eq_true]; exact ⟨⟨q1, q2⟩, q3⟩)]
  | exit j =>
    obtain ⟨⟨q1, q2, q3⟩, q4⟩ := h2
    refine ⟨n, .exit j, _, ?_, q4⟩
    simp only [exec, h1]
    rw [if_pos (by simp only [Bool.and_eq_true]; exact ⟨⟨q1, q2⟩, q3⟩)]
variable {m : Nat} {Q : Ex → St → Prop} {vars : List AV} {σ : List Blk}
theorem Lexd_ret {s : St} : Lexd m Q .ret s = Q .ret s := rfl
theorem Lexd_nor : Lexd m Q .nor ⟨vars, none, σ⟩ = ((vars.all (lowv m) = true ∧ lowB m m σ = true) ∧ Q .nor ⟨vars, none, σ.take m⟩) := by
  simp [Lexd]
theorem Lexd_exit {j : Nat} : Lexd m Q (.exit j) ⟨vars, none, σ⟩ = ((vars.all (lowv m) = true ∧ lowB m m σ = true) ∧ Q (.exit j) ⟨vars, none, σ.take m⟩) := by
  simp [Lexd]
theorem lowv_int {n : Int} : lowv m (.int n) = true := rfl
theorem lowv_bool {b : Bool} : lowv m (.bool b) = true := rfl
theorem lowv_und : lowv m .und = true := rfl
theorem lowv_snil : lowv m .snil = true := rfl
theorem lowv_imm {b : Bool} {l : List AV} : lowv m (.imm b l) = true := rfl
theorem lowv_pimm {x : AV} : lowv m (.pimm x) = true := rfl
theorem lowv_sl {b u o n : Nat} : lowv m (.sl b u o n) = decide (b < m) := rfl
theorem lowv_ptr {b u o : Nat} : lowv m (.ptr b u o) = decide (b < m) := rfl
theorem lowv_mapr {b : Nat} : lowv m (.mapr b) = decide (b < m) := rfl
theorem lowB_zero {n : Nat} {l : List Blk} : lowB n 0 l = true := by unfold lowB; rfl
theorem lowB_cons {n k : Nat} {B : Blk} {l : List Blk} : lowB n (k + 1) (B :: l) = (B.cells.all (lowv n) && lowB n k l) := rfl
attribute [simp ↓] Lexd_ret Lexd_nor Lexd_exit
attribute [simp] lowv_int lowv_bool lowv_und lowv_snil lowv_imm lowv_pimm lowv_sl lowv_ptr lowv_mapr lowB_zero lowB_cons
end Ab
