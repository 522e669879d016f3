/- What is stored in the search. A word is offered: the program does it. A word is offered: the whole. The pairs of a length are taken: the program does it. One level of the search: what is read. Condition: none. -/
import Derived.Test.YtkchnhfeebkogaaN43Off
set_option linter.all false
set_option maxRecDepth 100000
set_option maxHeartbeats 2000000
namespace Ab
section
variable {X : XM} {f : Bool} {s t k : Nat}
theorem zDMH (h : Xok X) (hs : s < X.N) (ht : t < X.N) (x : List Int) (R : Nat → List PR) (hR : R = (X.b f).R) : setB (mem X) (num X.N (.wr f s)) ⟨none, (wrow X.N (X.b f).W s).set t (.imm true (x.map .int)), .live⟩ = mem (X.setB' f ⟨updW (X.b f).W (s : Int) (t : Int) x, (X.b f).D, R⟩) := by
  subst hR
  obtain ⟨e1, e2, e3, e4, e5, e6⟩ := zKgL (X := X) (f := f) (b := ⟨updW (X.b f).W (s : Int) (t : Int) x, (X.b f).D, (X.b f).R⟩)
  refine zaSl h.n.1 e1.symm (by rw [e6]) (x := .wr f s) hs _ ?_ fun y hy => ?_
  · show (⟨none, wrow _ _ s, .live⟩ : Blk) = _
    rw [e1, z0tM]
    congr 1
    apply List.ext_getElem
    · simp [wrow]
    · intro i h1 h2
      simp only [wrow, List.getElem_set, List.getElem_map, List.getElem_range, updW]
      by_cases e : t = i
      · subst e; simp [wc]
      · have e' : ¬ (i : Int) = (t : Int) := by omega
        rw [if_neg e]; simp [e']
  · cases y with
    | rdy g =>
      show (⟨none, rdc _ g, .live⟩ : Blk) = ⟨none, rdc _ g, .live⟩
      congr 1
      unfold rdc
      rw [e1, e4, zLD3]
      by_cases e : g = f
      · subst e; rw [if_pos rfl]
      · rw [if_neg e]
    | box g => simp only [cb, e1]
    | wo g => simp only [cb, e1]
    | dno g => simp only [cb, e1]
    | co => simp only [cb, coc, e1, e3, e5]
    | bx => simp only [cb, e1, e2]
    | dr g u =>
      simp only [cb, e1, zLD3]
      by_cases e : g = f
      · subst e; rw [if_pos rfl]
      · rw [if_neg e]
    | wr g u =>
      simp only [cb, e1, zLD3]
      by_cases e : g = f
      · subst e
        rw [if_pos rfl]
        have hu : u ≠ s := fun e2 => hy (by rw [e2])
        congr 1
        unfold wrow
        refine List.map_congr_left fun i _ => ?_
        simp only [updW]
        rw [if_neg (by omega)]
      · rw [if_neg e]
    | dy i =>
      simp only [cb, e6]
      cases X.dyn[i]? with
      | none => rfl
      | some d =>
        cases d with
        | rt g j =>
          simp only [dcb, zLD3]
          by_cases e : g = f
          · subst e; rw [if_pos rfl]
          · rw [if_neg e]
        | ra j => simp only [dcb, e3]
        | jk B => rfl
theorem zrE1 (h : Xok X) (hs : s < X.N) (ht : t < X.N) : setB (mem X) (num X.N (.dr f s)) ⟨none, ((drow X.N (X.b f).D s).set t true).map .bool, .live⟩ = mem (X.setB' f ⟨(X.b f).W, updD (X.b f).D (s : Int) (t : Int), (X.b f).R⟩) := by
  obtain ⟨e1, e2, e3, e4, e5, e6⟩ := zKgL (X := X) (f := f) (b := ⟨(X.b f).W, updD (X.b f).D (s : Int) (t : Int), (X.b f).R⟩)
  refine zaSl h.n.1 e1.symm (by rw [e6]) (x := .dr f s) hs _ ?_ fun y hy => ?_
  · show (⟨none, (drow _ _ s).map .bool, .live⟩ : Blk) = _
    rw [e1, z0tM]
    congr 2
    apply List.ext_getElem
    · simp [drow]
    · intro i h1 h2
      simp only [drow, List.getElem_set, List.getElem_map, List.getElem_range, updD]
      by_cases e : t = i
      · subst e; simp
      · have e' : ¬ (i : Int) = (t : Int) := by omega
        rw [if_neg e]; simp [e']
  · cases y with
    | rdy g =>
      show (⟨none, rdc _ g, .live⟩ : Blk) = ⟨none, rdc _ g, .live⟩
      congr 1
      unfold rdc
      rw [e1, e4, zLD3]
      by_cases e : g = f
      · subst e; rw [if_pos rfl]
      · rw [if_neg e]
    | box g => simp only [cb, e1]
    | wo g => simp only [cb, e1]
    | dno g => simp only [cb, e1]
    | co => simp only [cb, coc, e1, e3, e5]
    | bx => simp only [cb, e1, e2]
    | wr g u =>
      simp only [cb, e1, zLD3]
      by_cases e : g = f
      · subst e; rw [if_pos rfl]
      · rw [if_neg e]
    | dr g u =>
      simp only [cb, e1, zLD3]
      by_cases e : g = f
      · subst e
        rw [if_pos rfl]
        have hu : u ≠ s := fun e2 => hy (by rw [e2])
        congr 2
        unfold drow
        refine List.map_congr_left fun i _ => ?_
        simp only [updD]
        rw [if_neg (by omega)]
      · rw [if_neg e]
    | dy i =>
      simp only [cb, e6]
      cases X.dyn[i]? with
      | none => rfl
      | some d =>
        cases d with
        | rt g j =>
          simp only [dcb, zLD3]
          by_cases e : g = f
          · subst e; rw [if_pos rfl]
          · rw [if_neg e]
        | ra j => simp only [dcb, e3]
        | jk B => rfl
theorem zDSv (h : Xok X) (W : TO) (D : Int → Int → Bool) : Xok (X.setB' f ⟨W, D, (X.b f).R⟩) := by
  obtain ⟨e1, e2, e3, e4, e5, e6⟩ := zKgL (X := X) (f := f) (b := ⟨W, D, (X.b f).R⟩)
  have hR : ∀ g, ((X.setB' f ⟨W, D, (X.b f).R⟩).b g).R = (X.b g).R := fun g => by
    rw [zLD3]
    by_cases e : g = f
    · subst e; rw [if_pos rfl]
    · rw [if_neg e]
  exact ⟨by rw [e1]; exact h.n, by rw [e2]; exact h.bx, fun g k hr => by rw [e6, e4]; exact h.r1 g k (by rw [← hR]; exact hr), fun i g k hi => by rw [e4, hR]; rw [e6] at hi; exact h.r2 i g k hi, fun t hr => by rw [e6, e5]; exact h.a1 t (by rw [← e3]; exact hr), fun i t hi => by rw [e3, e5]; rw [e6] at hi; exact h.a2 i t hi⟩
theorem set_e (h : Xok X) (W : TO) (D : Int → Int → Bool) : Xe X (X.setB' f ⟨W, D, (X.b f).R⟩) := by
  obtain ⟨e1, e2, e3, e4, e5, e6⟩ := zKgL (X := X) (f := f) (b := ⟨W, D, (X.b f).R⟩)
  exact ⟨zDSv h W D, e1, e2, [], by rw [e6]; simp⟩
theorem zb0R : (rdc X f).length = 1025 := by simp [rdc]
theorem zn7S (hk : k < 1025) : elm (rdc X f) k = some (if (X.b f).R k = [] then .snil else .sl (num X.N (.dy (X.ri f k))) (2 * ((X.b f).R k).length) 0 ((X.b f).R k).length) := by rw [znyW]; simp [rdc, hk]
theorem m_row (h : Xok X) (hr : (X.b f).R k ≠ []) : X.ri f k < X.dyn.length ∧ blk (mem X) (num X.N (.dy (X.ri f k))) = some ⟨some 2, prs ((X.b f).R k), .live⟩ := by
  have h1 := h.r1 f k hr
  have hl := (List.getElem?_eq_some_iff.1 h1).1
  refine ⟨hl, ?_⟩
  have := zTeC h.n.1 (x := .dy (X.ri f k)) hl
  rw [this]
  show some (dcb X X.dyn[X.ri f k]?) = _
  rw [h1]; rfl
theorem zoLh {l : List PR} {p : PR} : prs (l ++ [p]) = prs l ++ [.int p.1, .int p.2] := by simp [prs]
theorem zVGk : ∀ {l : List PR}, (prs l).length = 2 * l.length
  | [] => rfl
  | p :: l => by
    have := zVGk (l := l)
    simp only [prs, List.flatMap_cons, List.length_append, List.length_cons, List.length_nil] at this ⊢; omega
def riU (r : Bool → Nat → Nat) (f : Bool) (k v : Nat) : Bool → Nat → Nat := fun g j => if g = f ∧ j = k then v else r g j
def XM.addR (X : XM) (f : Bool) (k : Nat) (p : PR) : XM :=
  let Y := X.setB' f ⟨(X.b f).W, (X.b f).D, updR (X.b f).R k p⟩
  if (X.b f).R k = [] then { Y with ri := riU X.ri f k X.dyn.length, dyn := X.dyn ++ [.rt f k] } else Y
theorem zdHJ (h : Xok X) (hk : k < 1025) (p : PR) (hr : (X.b f).R k ≠ []) : setB (setB (mem X) (num X.N (.dy (X.ri f k))) ⟨some 2, prs ((X.b f).R k) ++ [.int p.1, .int p.2], .live⟩) (num X.N (.rdy f)) ⟨none, (rdc X f).set k (.sl (num X.N (.dy (X.ri f k))) (2 * ((X.b f).R k).length + 2) 0 (((X.b f).R k).length + 1)), .live⟩ = mem (X.addR f k p) := by
  have hl := (m_row h hr).1
  unfold XM.addR
  rw [if_neg hr]
  obtain ⟨e1, e2, e3, e4, e5, e6⟩ := zKgL (X := X) (f := f) (b := ⟨(X.b f).W, (X.b f).D, updR (X.b f).R k p⟩)
  refine zVJX h.n.1 e1.symm (by rw [e6]) (x := .dy (X.ri f k)) (z := .rdy f) hl trivial ?_ _ _ ?_ ?_ fun y hy hz => ?_
  · have := zzGJ (N := X.N) (D := 0) (x := .rdy f) trivial
    show 4 * X.N + 10 + X.ri f k ≠ _
    omega
  · show dcb _ _ = _
    rw [e6, h.r1 f k hr]
    simp only [dcb, z0tM, updR, if_true]
    rw [zoLh]
  · show (⟨none, rdc _ f, .live⟩ : Blk) = _
    congr 1
    apply List.ext_getElem
    · simp [rdc]
    · intro i h1 h2
      simp only [rdc, List.getElem_set, List.getElem_map, List.getElem_range, e1, e4, z0tM, updR]
      by_cases e : k = i
      · subst e; simp; omega
      · have e' : ¬ i = k := fun x => e x.symm
        rw [if_neg e]; simp only [if_neg e']
  · cases y with
    | rdy g =>
      have hg : g ≠ f := fun e => hz (by rw [e])
      show (⟨none, rdc _ g, .live⟩ : Blk) = ⟨none, rdc _ g, .live⟩
      congr 1
      unfold rdc
      rw [e1, e4, zLD3, if_neg hg]
    | box g => simp only [cb, e1]
    | wo g => simp only [cb, e1]
    | dno g => simp only [cb, e1]
    | co => simp only [cb, coc, e1, e3, e5]
    | bx => simp only [cb, e1, e2]
    | wr g u =>
      simp only [cb, e1, zLD3]
      by_cases e : g = f
      · subst e; rw [if_pos rfl]
      · rw [if_neg e]
    | dr g u =>
      simp only [cb, e1, zLD3]
      by_cases e : g = f
      · subst e; rw [if_pos rfl]
      · rw [if_neg e]
    | dy i =>
      have hi : i ≠ X.ri f k := fun e => hy (by rw [e])
      simp only [cb, e6]
      cases hd : X.dyn[i]? with
      | none => rfl
      | some d =>
        cases d with
        | rt g j =>
          simp only [dcb, zLD3]
          by_cases e : g = f
          · subst e
            rw [if_pos rfl]
            have hj : j ≠ k := fun e2 => hi (by rw [← e2]; exact (h.r2 i g j hd).2)
            simp only [updR, if_neg hj]
          · rw [if_neg e]
        | ra j => simp only [dcb, e3]
        | jk B => rfl
theorem zTYg (h : Xok X) (hk : k < 1025) (p : PR) (hr : (X.b f).R k = []) : setB (mem X ++ [⟨some 2, [.int p.1, .int p.2], .live⟩]) (num X.N (.rdy f)) ⟨none, (rdc X f).set k (.sl (num X.N (.dy X.dyn.length)) 2 0 1), .live⟩ = mem (X.addR f k p) := by
  unfold XM.addR
  rw [if_pos hr]
  obtain ⟨e1, e2, e3, e4, e5, e6⟩ := zKgL (X := X) (f := f) (b := ⟨(X.b f).W, (X.b f).D, updR (X.b f).R k p⟩)
  generalize hY : ({ X.setB' f ⟨(X.b f).W, (X.b f).D, updR (X.b f).R k p⟩ with ri := riU X.ri f k X.dyn.length, dyn := X.dyn ++ [.rt f k] } : XM) = Y
  have y1 : Y.N = X.N := by rw [← hY]; exact e1
  have y2 : Y.bx = X.bx := by rw [← hY]; exact e2
  have y3 : Y.A = X.A := by rw [← hY]; exact e3
  have y5 : Y.ai = X.ai := by rw [← hY]; exact e5
  have y4 : Y.ri = riU X.ri f k X.dyn.length := by rw [← hY]
  have y6 : Y.dyn = X.dyn ++ [.rt f k] := by rw [← hY]
  have yb : ∀ g, Y.b g = if g = f then ⟨(X.b f).W, (X.b f).D, updR (X.b f).R k p⟩ else X.b g := fun g => by rw [← hY, ← zLD3]; rfl
  refine zQvU h.n.1 y1.symm y6 (z := .rdy f) trivial _ _ ?_ ?_ fun y hz hv => ?_
  · simp only [dcb, yb, if_true, updR, hr]
    rfl
  · show (⟨none, rdc _ f, .live⟩ : Blk) = _
    congr 1
    apply List.ext_getElem
    · simp [rdc]
    · intro i h1 h2
      simp only [rdc, List.getElem_set, List.getElem_map, List.getElem_range, y1, y4, yb, updR, riU, if_true]
      by_cases e : k = i
      · subst e; simp [hr]
      · have e' : ¬ i = k := fun x => e x.symm
        rw [if_neg e]; simp only [true_and, if_neg e']
  · cases y with
    | rdy g =>
      have hg : g ≠ f := fun e => hz (by rw [e])
      show (⟨none, rdc _ g, .live⟩ : Blk) = ⟨none, rdc _ g, .live⟩
      congr 1
      unfold rdc
      refine List.map_congr_left fun j _ => ?_
      rw [y1, y4, yb, if_neg hg]
      simp only [riU, hg, false_and, if_false]
    | box g => simp only [cb, y1]
    | wo g => simp only [cb, y1]
    | dno g => simp only [cb, y1]
    | co => simp only [cb, coc, y1, y3, y5]
    | bx => simp only [cb, y1, y2]
    | wr g u =>
      simp only [cb, y1, yb]
      by_cases e : g = f
      · subst e; rw [if_pos rfl]
      · rw [if_neg e]
    | dr g u =>
      simp only [cb, y1, yb]
      by_cases e : g = f
      · subst e; rw [if_pos rfl]
      · rw [if_neg e]
    | dy i =>
      have hi : i < X.dyn.length := hv
      simp only [cb, y6]
      rw [List.getElem?_append_left hi]
      cases hd : X.dyn[i]? with
      | none => rfl
      | some d =>
        cases d with
        | rt g j =>
          simp only [dcb, yb]
          by_cases e : g = f
          · subst e
            rw [if_pos rfl]
            have hj : j ≠ k := fun e2 => (h.r2 i g j hd).1 (by rw [e2]; exact hr)
            simp only [updR, if_neg hj]
          · rw [if_neg e]
        | ra j => simp only [dcb, y3]
        | jk B => rfl
theorem zEGR {p : PR} {g : Bool} : (X.addR f k p).b g = if g = f then ⟨(X.b f).W, (X.b f).D, updR (X.b f).R k p⟩ else X.b g := by
  unfold XM.addR
  split
  · rw [← zLD3]; rfl
  · exact zLD3
theorem zeZx {p : PR} : (X.addR f k p).N = X.N ∧ (X.addR f k p).bx = X.bx ∧ (X.addR f k p).A = X.A ∧ (X.addR f k p).ai = X.ai := by
  obtain ⟨e1, e2, e3, e4, e5, e6⟩ := zKgL (X := X) (f := f) (b := ⟨(X.b f).W, (X.b f).D, updR (X.b f).R k p⟩)
  unfold XM.addR
  split <;> exact ⟨e1, e2, e3, e5⟩
theorem zg2C (h : Xok X) (p : PR) : Xe X (X.addR f k p) := by
  obtain ⟨y1, y2, y3, y5⟩ := zeZx (X := X) (f := f) (k := k) (p := p)
  have yb := fun g => zEGR (X := X) (f := f) (k := k) (p := p) (g := g)
  obtain ⟨e1, e2, e3, e4, e5, e6⟩ := zKgL (X := X) (f := f) (b := ⟨(X.b f).W, (X.b f).D, updR (X.b f).R k p⟩)
  by_cases hr : (X.b f).R k = []
  · have y4 : (X.addR f k p).ri = riU X.ri f k X.dyn.length := by unfold XM.addR; rw [if_pos hr]
    have y6 : (X.addR f k p).dyn = X.dyn ++ [.rt f k] := by unfold XM.addR; rw [if_pos hr]
    refine ⟨⟨by rw [y1]; exact h.n, by rw [y2]; exact h.bx, fun g j hne => ?_, fun i g j hi => ?_, fun t hne => ?_, fun i t hi => ?_⟩, y1, y2, [.rt f k], y6⟩
    · rw [y6, y4]
      unfold riU
      by_cases e : g = f ∧ j = k
      · rw [if_pos e, List.getElem?_append_right (Nat.le_refl _), Nat.sub_self, e.1, e.2]; rfl
      · rw [if_neg e]
        have hne' : (X.b g).R j ≠ [] := by
          rw [yb] at hne
          by_cases eg : g = f
          · subst eg
            rw [if_pos rfl] at hne
            have hj : j ≠ k := fun x => e ⟨rfl, x⟩
            simp only [updR, if_neg hj] at hne
            exact hne
          · rw [if_neg eg] at hne; exact hne
        have := h.r1 g j hne'
        rw [List.getElem?_append_left (List.getElem?_eq_some_iff.1 this).1, this]
    · rw [y6] at hi
      rw [y4, yb]
      by_cases hl : i < X.dyn.length
      · rw [List.getElem?_append_left hl] at hi
        obtain ⟨a1, a2⟩ := h.r2 i g j hi
        have hne : ¬ (g = f ∧ j = k) := fun e => a1 (by rw [e.1, e.2]; exact hr)
        unfold riU
        rw [if_neg hne]
        refine ⟨?_, a2⟩
        by_cases eg : g = f
        · subst eg
          rw [if_pos rfl]
          have hj : j ≠ k := fun x => hne ⟨rfl, x⟩
          simp only [updR, if_neg hj]
          exact a1
        · rw [if_neg eg]; exact a1
      · rw [List.getElem?_append_right (by omega)] at hi
        have : i - X.dyn.length = 0 ∨ 0 < i - X.dyn.length := by omega
        rcases this with e | e
        · rw [e] at hi
          simp at hi
          obtain ⟨rfl, rfl⟩ := hi
          rw [if_pos rfl]
          exact ⟨by simp [updR], by unfold riU; rw [if_pos ⟨rfl, rfl⟩]; omega⟩
        · rw [List.getElem?_eq_none (by simp; omega)] at hi; simp at hi
    · rw [y3] at hne
      rw [y6, y5]
      have := h.a1 t hne
      rw [List.getElem?_append_left (List.getElem?_eq_some_iff.1 this).1, this]
    · rw [y6] at hi
      rw [y3, y5]
      by_cases hl : i < X.dyn.length
      · rw [List.getElem?_append_left hl] at hi; exact h.a2 i t hi
      · rw [List.getElem?_append_right (by omega)] at hi
        have : i - X.dyn.length = 0 ∨ 0 < i - X.dyn.length := by omega
        rcases this with e | e
        · rw [e] at hi; simp at hi
        · rw [List.getElem?_eq_none (by simp; omega)] at hi; simp at hi
  · have hY : X.addR f k p = X.setB' f ⟨(X.b f).W, (X.b f).D, updR (X.b f).R k p⟩ := by unfold XM.addR; rw [if_neg hr]
    have y4 : (X.addR f k p).ri = X.ri := by rw [hY]; exact e4
    have y6 : (X.addR f k p).dyn = X.dyn := by rw [hY]; exact e6
    have hiff : ∀ g j, ((X.addR f k p).b g).R j ≠ [] ↔ (X.b g).R j ≠ [] := fun g j => by
      rw [yb]
      by_cases eg : g = f
      · subst eg
        rw [if_pos rfl]
        simp only [updR]
        by_cases ej : j = k
        · subst ej; rw [if_pos rfl]; simp [hr]
        · rw [if_neg ej]
      · rw [if_neg eg]
    exact ⟨⟨by rw [y1]; exact h.n, by rw [y2]; exact h.bx, fun g j hne => by rw [y6, y4]; exact h.r1 g j ((hiff g j).1 hne), fun i g j hi => by rw [y4, hiff]; rw [y6] at hi; exact h.r2 i g j hi, fun t hne => by rw [y6, y5]; rw [y3] at hne; exact h.a1 t hne, fun i t hi => by rw [y3, y5]; rw [y6] at hi; exact h.a2 i t hi⟩, y1, y2, [], by rw [y6]; simp⟩
end
end Ab
namespace Ab
def OfQ (X : XM) (f : Bool) (b : Bs) (r : AV) (τ : List Blk) : Prop := r = .tup [] ∧ ∃ Y, τ = mem Y ∧ Xe X Y ∧ Y.b f = b ∧ Y.b (!f) = X.b (!f) ∧ Y.A = X.A
theorem zTJw {σ τ : List Blk} {n : Nat} {B : Blk} (h : blk σ n = some B) : blk (σ ++ τ) n = some B := by
  rw [zzWB] at h ⊢
  rw [List.getElem?_append_left (List.getElem?_eq_some_iff.1 h).1, h]
theorem zsbM {σ : List Blk} {B B' : Blk} {n : Nat} (h : n = σ.length) : setB (σ ++ [B]) n B' = σ ++ [B'] := by
  subst h
  rw [z4Wl]; simp
inductive Rdw2 : AV → List Int → Prop
  | nil : Rdw2 .snil []
  | imm (q : Bool) (l : List Int) : Rdw2 (.imm q (l.map .int)) l
theorem putI {a b : List Int} {n k : Nat} (hk : k = a.length) (h : a.length + b.length ≤ n) : putAt (a.map .int ++ List.replicate (n - a.length) (.int 0)) k (b.map .int) = (a ++ b).map .int ++ List.replicate (n - (a.length + b.length)) (.int 0) := by
  subst hk
  unfold putAt
  rw [List.take_left' (by simp), List.drop_append, List.drop_of_length_le (by simp)]
  simp
  omega
theorem ofA {σ : List Blk} {p a b v w : AV} {lv lw : List Int} {Q : Ex → St → Prop} (hv : Rdw σ v lv) (hw : Rdw2 w lw) (hl : lv.length + lw.length ≤ 5000) (h : Q .nor ⟨[p, a, b, v, w, .int ((lv.length + lw.length : Nat) : Int), .und, .und], none, σ⟩) : WK L (.reg z1SC) [p, a, b, v, w, .und, .und, .und] none σ Q := by
  cases hv with
  | nil =>
    cases hw with
    | nil => simp [-zJRc] at h ⊢; exact h
    | imm q l => simp [-zJRc] at h ⊢; exact ⟨by simp at hl; omega, h⟩
  | imm q' l' =>
    cases hw with
    | nil => simp [-zJRc] at h ⊢; exact ⟨by simp at hl; omega, h⟩
    | imm q l => simp [-zJRc] at h ⊢; exact ⟨by omega, h⟩
  | sl c l' hb =>
    cases hw with
    | nil => simp [-zJRc, hb] at h ⊢; exact ⟨by simp at hl; omega, h⟩
    | imm q l => simp [-zJRc, hb] at h ⊢; exact ⟨by omega, h⟩
theorem ofB {σ : List Blk} {p a b v w o : AV} {lv lw : List Int} {m : Nat} {Q : Ex → St → Prop} (hm : m = lv.length + lw.length) (hv : Rdw σ v lv) (hw : Rdw2 w lw) (hl : m ≤ 5000) (h : ∀ B, Q .nor ⟨[p, a, b, .und, .und, .int m, o, .imm true ((lv ++ lw).map .int)], none, σ ++ [B]⟩) : WK L (.seq (.reg zJmP) (.frz 7)) [p, a, b, v, w, .int m, o, .und] none σ Q := by
  have hb0 := fun B => znKw (σ := σ) (B := B) (n := σ.length) rfl
  have hs0 := fun B B' => zsbM (σ := σ) (B := B) (B' := B') (n := σ.length) rfl
  have key : ∀ (cells : List AV) (N u : Nat), cells = (lv ++ lw).map .int ++ List.replicate 1 (.int 0) → N = (lv ++ lw).length → u = m + 1 → W L (.frz 7) ⟨[p, a, b, .und, .und, .int m, o, .sl σ.length u 0 N], none, σ ++ [⟨none, cells, .live⟩]⟩ Q := by
    rintro cells N u rfl rfl rfl
    exact zZJF (l := lv ++ lw) (r := 1) rfl (by rw [hm, List.length_append]) rfl (h _)
  have c0 : List.map AV.int (List.replicate (m + 1) 0) = List.replicate (m + 1) (.int 0) := by rw [List.map_replicate]
  have z : ∀ (l : List Int), l.length ≤ m → putAt (List.map AV.int (List.replicate (m + 1) 0)) 0 (l.map .int) = l.map .int ++ List.replicate (m + 1 - l.length) (.int 0) := fun l hl => by
    have := putI (a := []) (b := l) (n := m + 1) (k := 0) rfl (by simp; omega)
    rw [c0]
    simpa using this
  have zl : (lv.map AV.int ++ List.replicate (m + 1 - lv.length) (AV.int 0)).length = m + 1 := by simp; omega
  have z2 : putAt (lv.map AV.int ++ List.replicate (m + 1 - lv.length) (AV.int 0)) lv.length (lw.map .int) = (lv ++ lw).map .int ++ List.replicate 1 (.int 0) := by
    have := putI (a := lv) (b := lw) (n := m + 1) (k := lv.length) rfl (by omega)
    rw [this, show m + 1 - (lv.length + lw.length) = 1 by omega]
  have hml := eq_true (show lv.length ≤ m + 1 by omega)
  have hwl := eq_true (show lw.length ≤ m + 1 by omega)
  have hwl2 := eq_true (show lv.length + lw.length ≤ m + 1 by omega)
  have g1 := z lv (by omega)
  have g2 := z lw (by omega)
  have hne : (m + 1 = lv.length) = False := eq_false (by omega)
  have hne' : (lv.length = m + 1) = False := eq_false (by omega)
  have htk : List.take lv.length (lv.map AV.int) = lv.map .int := List.take_of_length_le (by simp)
  have kw : lv = [] → W L (.frz 7) ⟨[p, a, b, .und, .und, .int m, o, .sl σ.length (m + 1) 0 lw.length], none, σ ++ [⟨none, lw.map .int ++ List.replicate (m + 1 - lw.length) (.int 0), .live⟩]⟩ Q := fun e => by
    have em : m = lw.length := by rw [hm, e]; simp
    exact key _ _ _ (by rw [e, em, show lw.length + 1 - lw.length = 1 by omega]; rfl) (by rw [e]; rfl) rfl
  have kv : lw = [] → W L (.frz 7) ⟨[p, a, b, .und, .und, .int m, o, .sl σ.length (m + 1) 0 lv.length], none, σ ++ [⟨none, lv.map .int ++ List.replicate (m + 1 - lv.length) (.int 0), .live⟩]⟩ Q := fun e => by
    have em : m = lv.length := by rw [hm, e]; simp
    exact key _ _ _ (by rw [e, em, List.append_nil, show lv.length + 1 - lv.length = 1 by omega]) (by rw [e]; simp) rfl
  have kvw : W L (.frz 7) ⟨[p, a, b, .und, .und, .int m, o, .sl σ.length (m + 1) 0 (lv.length + lw.length)], none, σ ++ [⟨none, lv.map .int ++ (lw.map .int ++ [.int 0]), .live⟩]⟩ Q := key _ _ _ (by simp) (by simp) rfl
  cases hv with
  | nil =>
    cases hw with
    | nil =>
      have em : m = 0 := by rw [hm]; rfl
      subst em
      simp [-zJRc, hb0, hs0]
      exact key _ _ _ rfl rfl rfl
    | imm q l =>
      by_cases e2 : lw = []
      · have em : m = 0 := by rw [hm, e2]; rfl
        subst em
        have e2' := e2
        subst e2'
        simp [-zJRc, hb0, hs0]
        exact key _ _ _ rfl rfl rfl
      · have em : m = lw.length := by rw [hm]; simp
        simp [-zJRc, hb0, hs0, -List.map_replicate, e2, g2, hwl]
        exact ⟨by omega, by omega, by omega, kw rfl⟩
  | imm q' l' =>
    cases hw with
    | nil =>
      by_cases e1 : lv = []
      · have em : m = 0 := by rw [hm, e1]; rfl
        subst em
        have e2' := e1
        subst e2'
        simp [-zJRc, hb0, hs0]
        exact key _ _ _ rfl rfl rfl
      · simp [-zJRc, hb0, hs0, -List.map_replicate, e1, g1, hml]
        exact ⟨by omega, by omega, by omega, kv rfl⟩
    | imm q l =>
      by_cases e1 : lv = []
      · by_cases e2 : lw = []
        · have em : m = 0 := by rw [hm, e1, e2]; rfl
          subst em
          have e2' := e1
          subst e2'
          have e2' := e2
          subst e2'
          simp [-zJRc, hb0, hs0]
          exact key _ _ _ rfl rfl rfl
        · have e2' := e1
          subst e2'
          simp [-zJRc, hb0, hs0, -List.map_replicate, e2, g2, hwl]
          exact ⟨by omega, by omega, by omega, kw rfl⟩
      · by_cases e2 : lw = []
        · have e2' := e2
          subst e2'
          simp [-zJRc, hb0, hs0, -List.map_replicate, e1, g1, hml]
          exact ⟨by omega, by omega, by omega, kv rfl⟩
        · simp [-zJRc, hb0, hs0, -List.map_replicate, e1, e2, g1, hml, hwl2, hne, hne', zl, z2]
          exact ⟨by omega, by omega, by omega, by omega, kvw⟩
  | sl c l' hb =>
    have hb' := fun τ => zTJw (τ := τ) hb
    cases hw with
    | nil =>
      by_cases e1 : lv = []
      · have em : m = 0 := by rw [hm, e1]; rfl
        subst em
        have e2' := e1
        subst e2'
        simp [-zJRc, hb0, hs0, hb', htk]
        exact key _ _ _ rfl rfl rfl
      · simp [-zJRc, hb0, hs0, hb', htk, -List.map_replicate, e1, g1, hml]
        exact ⟨by omega, by omega, by omega, kv rfl⟩
    | imm q l =>
      by_cases e1 : lv = []
      · by_cases e2 : lw = []
        · have em : m = 0 := by rw [hm, e1, e2]; rfl
          subst em
          have e2' := e1
          subst e2'
          have e2' := e2
          subst e2'
          simp [-zJRc, hb0, hs0, hb', htk]
          exact key _ _ _ rfl rfl rfl
        · have e2' := e1
          subst e2'
          simp [-zJRc, hb0, hs0, hb', htk, -List.map_replicate, e2, g2, hwl]
          exact ⟨by omega, by omega, by omega, kw rfl⟩
      · by_cases e2 : lw = []
        · have e2' := e2
          subst e2'
          simp [-zJRc, hb0, hs0, hb', htk, -List.map_replicate, e1, g1, hml]
          exact ⟨by omega, by omega, by omega, kv rfl⟩
        · simp [-zJRc, hb0, hs0, hb', htk, -List.map_replicate, e1, e2, g1, hml, hwl2, hne, hne', zl, z2]
          exact ⟨by omega, by omega, by omega, by omega, kvw⟩
end Ab
namespace Ab
theorem putR1 : ∀ {cs : List AV} {k : Nat} {x : AV}, putR cs k [x] = cs.set k x
  | [], 0, _ => rfl
  | [], _ + 1, _ => rfl
  | c :: cs, 0, x => by cases cs <;> rfl
  | c :: cs, k + 1, x => by rw [List.set_cons_succ, ← putR1 (cs := cs)]
theorem zkoI {σ : List Blk} {a b : Nat} {B : Blk} (h : a ≠ b) : blk (setB σ a B) b = blk σ b := by
  rw [zzWB, z4Wl, zzWB, List.getElem?_set_ne h]
def ofR3 : IC := (.seq (.seq (.reg zicO)
 (.cond 66 .ret .skip))
 (.seq (.reg zBMU)
 (.seq (.reg zcZ5)
 (.cond 84 (.reg zN12) .skip))))
def ofR2 : IC := (.seq (.seq (.reg zJmP) (.frz 7)) ofR3)
section
variable {X : XM} {f : Bool} {s t : Nat}
theorem zx7z (h : Xok X) : OfQ X f (X.b f) (.tup []) (mem X) := ⟨rfl, X, rfl, .refl h, rfl, rfl, rfl⟩
theorem ofC (h : Xok X) (hs : s < X.N) (ht : t < X.N) {x : List Int} (hx : x.length ≤ 1024) (hD : (X.b f).D (s : Int) (t : Int) = false) (ho : ∀ o, (X.b f).W (s : Int) (t : Int) = some o → x.length ≤ o.length ∧ o.length ≤ 1024) (hR : ∀ k, ((X.b f).R k).length ≤ 1000000) {K : AV → List Blk → Prop} (hK : ∀ Y, Xe X Y → Y.b f = (X.b f).off (s : Int) (t : Int) x → Y.b (!f) = X.b (!f) → Y.A = X.A → K (.tup []) (mem Y)) : WK L ofR3 [.ptr (num X.N (.box f)) (kst (some 3)) 0, .int s, .int t, .und, .und, .int ((x.length : Nat) : Int), wc ((X.b f).W (s : Int) (t : Int)), .imm true (x.map .int)] none (mem X) (EndsK zG2w K) := by
  unfold ofR3
  have b1 := m_box (f := f) h
  have b2 := m_wo (f := f) h
  have b3 := m_wr (f := f) h hs
  have b6 := m_rdy (f := f) h
  have r1 := zCaJ (N := X.N) (g := .wr f)
  have r3 := z2sE (N := X.N) (g := .wr f) hs
  have r5 := zFNI (s := s) (N := X.N) (W := (X.b f).W)
  have r6 := zoH3 (s := s) (N := X.N) (W := (X.b f).W) ht
  have hs' := eq_true hs
  have ht' := eq_true ht
  have hst := zDMH (f := f) h hs ht x (X.b f).R rfl
  rw [← putR1] at hst
  have hst : setB (mem X) (num X.N (.wr f s)) ⟨none, putR (wrow X.N (X.b f).W s) t (AV.imm true (x.map .int)).cells, .live⟩ = _ := hst
  have hXW := set_e (f := f) h (updW (X.b f).W (s : Int) (t : Int) x) (X.b f).D
  have hbW := z0tM (X := X) (f := f) (b := ⟨updW (X.b f).W (s : Int) (t : Int) x, (X.b f).D, (X.b f).R⟩)
  have hoW := zRB4 (X := X) (f := f) (b := ⟨updW (X.b f).W (s : Int) (t : Int) x, (X.b f).D, (X.b f).R⟩)
  have hAW := (zKgL (X := X) (f := f) (b := ⟨updW (X.b f).W (s : Int) (t : Int) x, (X.b f).D, (X.b f).R⟩)).2.2.1
  have hNW := (zKgL (X := X) (f := f) (b := ⟨updW (X.b f).W (s : Int) (t : Int) x, (X.b f).D, (X.b f).R⟩)).1
  generalize hY : X.setB' f ⟨updW (X.b f).W (s : Int) (t : Int) x, (X.b f).D, (X.b f).R⟩ = Y at *
  have c1 := m_box (f := f) hXW.ok
  have c6 := m_rdy (f := f) hXW.ok
  rw [hNW] at c1 c6
  have l6 := zb0R (X := Y) (f := f)
  have hk : x.length < 1025 := by omega
  have hk' := eq_true hk
  have el := zn7S (X := Y) (f := f) hk
  have hRY : (Y.b f).R = (X.b f).R := by rw [hbW]
  have ht1 := eq_true (show t + 1 ≤ X.N by omega)
  have hk1 := eq_true (show x.length + 1 ≤ 1025 by omega)
  have nN := fun (p : PR) (hr : (Y.b f).R x.length = []) => zTYg (f := f) hXW.ok hk p hr
  have nO := fun (p : PR) (hr : (Y.b f).R x.length ≠ []) => zdHJ (f := f) hXW.ok hk p hr
  have mlY : num X.N (.dy Y.dyn.length) = (mem Y).length := by rw [zKS9, hNW]; rfl
  simp only [← putR1, hNW, mlY] at nN nO
  have c7 := fun (B : Blk) => zTJw (τ := [B]) c6
  have hne : ∀ i, num X.N (.dy i) ≠ num X.N (.rdy f) := fun i => by
    have := zzGJ (N := X.N) (D := 0) (x := .rdy f) trivial
    show 4 * X.N + 10 + i ≠ _
    omega
  have c8 := fun (i : Nat) (B : Blk) => zkoI (σ := mem Y) (B := B) (hne i)
  have hk2 := eq_true (show (x.length : Int) < 1025 by omega)
  have aE := fun (p : PR) => zg2C (f := f) (k := x.length) hXW.ok p
  have aB := fun (p : PR) (g : Bool) => zEGR (X := Y) (f := f) (k := x.length) (p := p) (g := g)
  have aN := fun (p : PR) => zeZx (X := Y) (f := f) (k := x.length) (p := p)
  cases hW : (X.b f).W (s : Int) (t : Int) with
  | none =>
    have eo : (X.b f).off (s : Int) (t : Int) x = ⟨updW (X.b f).W (s : Int) (t : Int) x, (X.b f).D, updR (X.b f).R x.length ((s : Int), (t : Int))⟩ := by
      unfold Bs.off
      rw [if_neg (by simp [hD]; omega), hW]
    rw [hW] at r6
    have fin : K (.tup []) (mem (Y.addR f x.length ((s : Int), (t : Int)))) := hK _ (hXW.trans (aE _)) (by rw [aB, if_pos rfl, eo, hbW]) (by rw [aB, if_neg (by cases f <;> simp), hoW]) (by rw [(aN _).2.2.1, hAW])
    have hw0 : wc none = .snil := rfl
    rw [hw0] at r6
    by_cases hr : (Y.b f).R x.length = []
    · rw [if_pos hr] at el
      have n1 := nN ((s : Int), (t : Int)) hr
      simp [-zJRc, hw0, b1, b2, b3, r1, r3, r5, r6, hs', ht', hst, c1, c6, l6, el, hk', ht1, hk1, hk2, c7, n1]
      exact fin
    · rw [if_neg hr, hNW] at el
      have hm := (m_row hXW.ok hr).2
      rw [hNW] at hm
      have hpl := zVGk (l := (Y.b f).R x.length)
      have n1 := nO ((s : Int), (t : Int)) hr
      have hr' : ((Y.b f).R x.length).length ≠ 0 := fun e => hr (List.eq_nil_of_length_eq_zero e)
      simp [-zJRc, hw0, b1, b2, b3, r1, r3, r5, r6, hs', ht', hst, c1, c6, l6, el, hk', hm, hpl, ht1, hk1, hk2, c8, n1]
      exact ⟨⟨by simp [kst]; omega, by rw [hRY]; have := hR x.length; omega⟩, fin⟩
  | some o =>
    obtain ⟨o1, o2⟩ := ho o hW
    have hcm := zXl5 o x (by omega) (by omega)
    have hcm : PC zGKM [.imm false (o.map .int), .imm false (x.map .int)] = some (.int (slxC o x)) := hcm
    have hw0 : wc (some o) = .imm true (o.map .int) := rfl
    rw [hW, hw0] at r6
    have eb : (X.b f).off (s : Int) (t : Int) x = if slxC o x ≤ 0 then X.b f else ⟨updW (X.b f).W (s : Int) (t : Int) x, (X.b f).D, if x.length < o.length then updR (X.b f).R x.length ((s : Int), (t : Int)) else (X.b f).R⟩ := by
      unfold Bs.off
      rw [if_neg (by simp [hD]; omega), hW]
      dsimp only
      rw [if_neg (by omega)]
    by_cases hle : slxC o x ≤ 0
    · rw [if_pos hle] at eb
      have hle' := eq_true hle
      simp [-zJRc, hw0, hcm, hle']
      exact hK X (.refl h) eb.symm rfl rfl
    · rw [if_neg hle] at eb
      have hle' := eq_false hle
      by_cases hlt : x.length < o.length
      · rw [if_pos hlt] at eb
        have hlt' := eq_true (show (x.length : Int) < (o.length : Int) by omega)
        have fin : K (.tup []) (mem (Y.addR f x.length ((s : Int), (t : Int)))) := hK _ (hXW.trans (aE _)) (by rw [aB, if_pos rfl, eb, hbW]) (by rw [aB, if_neg (by cases f <;> simp), hoW]) (by rw [(aN _).2.2.1, hAW])
        by_cases hr : (Y.b f).R x.length = []
        · rw [if_pos hr] at el
          have n1 := nN ((s : Int), (t : Int)) hr
          simp [-zJRc, hw0, hcm, hle', hlt', b1, b2, b3, r1, r3, r5, r6, hs', ht', hst, c1, c6, l6, el, hk', ht1, hk1, hk2, c7, n1]
          exact fin
        · rw [if_neg hr, hNW] at el
          have hm := (m_row hXW.ok hr).2
          rw [hNW] at hm
          have hpl := zVGk (l := (Y.b f).R x.length)
          have n1 := nO ((s : Int), (t : Int)) hr
          have hr' : ((Y.b f).R x.length).length ≠ 0 := fun e => hr (List.eq_nil_of_length_eq_zero e)
          simp [-zJRc, hw0, hcm, hle', hlt', b1, b2, b3, r1, r3, r5, r6, hs', ht', hst, c1, c6, l6, el, hk', hm, hpl, ht1, hk1, hk2, c8, n1]
          exact ⟨⟨by simp [kst]; omega, by rw [hRY]; have := hR x.length; omega⟩, fin⟩
      · rw [if_neg hlt] at eb
        have hlt' := eq_false (show ¬ (x.length : Int) < (o.length : Int) by omega)
        simp [-zJRc, hw0, hcm, hle', hlt', b1, b2, b3, r1, r3, r5, r6, hs', ht', hst, c1, ht1]
        exact hK Y hXW (by rw [eb, hbW]) hoW hAW
theorem zaGq (h : Xok X) (hs : s < X.N) (ht : t < X.N) {v w : AV} {lv lw : List Int} (hv : Rdw (mem X) v lv) (hw : Rdw2 w lw) (hl : lv.length + lw.length ≤ 5000) (hR : ∀ k, ((X.b f).R k).length ≤ 1000000) (ho : ∀ o, (X.b f).W (s : Int) (t : Int) = some o → o.length ≤ 1024) : ∃ Y, L zDj1 [.ptr (num X.N (.box f)) (kst (some 3)) 0, .int s, .int t, v, w] (mem X) = some (.tup [], mem Y) ∧ Xe X Y ∧ Y.b f = (X.b f).off (s : Int) (t : Int) (lv ++ lw) ∧ Y.b (!f) = X.b (!f) ∧ Y.A = X.A := by
  have main : LX L zDj1 [.ptr (num X.N (.box f)) (kst (some 3)) 0, .int s, .int t, v, w] (mem X) (OfQ X f ((X.b f).off (s : Int) (t : Int) (lv ++ lw))) := by
    refine zb0b rfl ?_
    show WK L (.seq (.reg z1SC) (.seq (.reg zZTC) (.seq (.seq (.reg zH9S) (.cond 51 .ret .skip)) ofR2))) [.ptr (num X.N (.box f)) (kst (some 3)) 0, .int s, .int t, v, w, .und, .und, .und] none (mem X) _
    rw [zJsO]
    refine ofA hv hw hl ?_
    rw [zmRO]
    have b1 := m_box (f := f) h
    have b2 := m_wo (f := f) h
    have b3 := m_wr (f := f) h hs
    have b4 := m_do (f := f) h
    have b5 := m_dr (f := f) h hs
    have r1 := zCaJ (N := X.N) (g := .wr f)
    have r2 := zCaJ (N := X.N) (g := .dr f)
    have r3 := z2sE (N := X.N) (g := .wr f) hs
    have r4 := z2sE (N := X.N) (g := .dr f) hs
    have r5 := zFNI (s := s) (N := X.N) (W := (X.b f).W)
    have r6 := zoH3 (s := s) (N := X.N) (W := (X.b f).W) ht
    have r7 := zGyT (s := s) (N := X.N) (D := (X.b f).D)
    have r8 := z8jd (s := s) (N := X.N) (D := (X.b f).D) ht
    have r9 := z6JH (s := s) (N := X.N) (D := (X.b f).D) ht
    have hs' := eq_true hs
    have ht' := eq_true ht
    -- behind the tests
    have rest : ¬ 1024 < lv.length + lw.length → (X.b f).D (s : Int) (t : Int) = false → (∀ o, (X.b f).W (s : Int) (t : Int) = some o → lv.length + lw.length ≤ o.length) → WK L ofR2 [.ptr (num X.N (.box f)) (kst (some 3)) 0, .int s, .int t, v, w, .int ((lv.length + lw.length : Nat) : Int), wc ((X.b f).W (s : Int) (t : Int)), .und] none (mem X) (EndsK zG2w (OfQ X f ((X.b f).off (s : Int) (t : Int) (lv ++ lw)))) := by
      intro q1 q2 q3
      unfold ofR2
      rw [zJsO]
      refine ofB rfl hv hw hl fun B => ?_
      rw [zmRO, zxtn h B]
      have hlx : (lv ++ lw).length = lv.length + lw.length := List.length_append
      rw [← hlx]
      refine ofC (X := X.add B) (zQld h B) hs ht (by omega) q2 (fun o e => ⟨by rw [hlx]; exact q3 o e, ho o e⟩) hR fun Y y1 y2 y3 y4 => ?_
      exact ⟨rfl, Y, rfl, (add_e h B).trans y1, y2, y3, y4⟩
    by_cases h1 : 1024 < lv.length + lw.length
    · have e : (X.b f).off (s : Int) (t : Int) (lv ++ lw) = X.b f := by unfold Bs.off; rw [if_pos (.inl (by rw [List.length_append]; exact h1))]
      rw [e]
      have h1' := eq_true (show (1024 : Int) < ((lv.length + lw.length : Nat) : Int) by omega)
      generalize lv.length + lw.length = n at *
      simp [-zJRc, b1, b2, b3, b4, b5, r1, r2, r3, r4, r5, r6, r7, r8, r9, hs', ht', h1']
      exact zx7z h
    · have h1' := eq_false (show ¬ (1024 : Int) < ((lv.length + lw.length : Nat) : Int) by omega)
      have rest := rest h1
      cases hD : (X.b f).D (s : Int) (t : Int) with
      | true =>
        have e : (X.b f).off (s : Int) (t : Int) (lv ++ lw) = X.b f := by unfold Bs.off; rw [if_pos (.inr hD)]
        rw [e]
        rw [hD] at r8 r9
        generalize lv.length + lw.length = n at *
        simp [-zJRc, b1, b2, b3, b4, b5, r1, r2, r3, r4, r5, r6, r7, r8, r9, hs', ht', h1']
        exact zx7z h
      | false =>
        have rest := rest hD
        rw [hD] at r8 r9
        cases hW : (X.b f).W (s : Int) (t : Int) with
        | none =>
          have hw0 : wc none = .snil := rfl
          have rest := rest (fun o e => by rw [hW] at e; simp at e)
          rw [hW, hw0] at r6 rest
          generalize lv.length + lw.length = n at *
          simp [-zJRc, b1, b2, b3, b4, b5, r1, r2, r3, r4, r5, r6, r7, r8, r9, hs', ht', h1']
          exact rest
        | some o =>
          have hw0 : wc (some o) = .imm true (o.map .int) := rfl
          rw [hW, hw0] at r6
          by_cases ho2 : o.length < lv.length + lw.length
          · have e : (X.b f).off (s : Int) (t : Int) (lv ++ lw) = X.b f := by
              unfold Bs.off
              rw [if_neg (by simp [hD]; omega), hW]
              dsimp only
              rw [if_pos (by rw [List.length_append]; exact ho2)]
            rw [e]
            have h2' := eq_true (show (o.length : Int) < ((lv.length + lw.length : Nat) : Int) by omega)
            generalize lv.length + lw.length = n at *
            simp [-zJRc, b1, b2, b3, b4, b5, r1, r2, r3, r4, r5, r6, r7, r8, r9, hs', ht', h1', h2']
            exact zx7z h
          · have rest := rest (fun o' e => by rw [hW] at e; injection e with e; rw [← e]; omega)
            rw [hW, hw0] at rest
            have h2' := eq_false (show ¬ (o.length : Int) < ((lv.length + lw.length : Nat) : Int) by omega)
            generalize lv.length + lw.length = n at *
            simp [-zJRc, b1, b2, b3, b4, b5, r1, r2, r3, r4, r5, r6, r7, r8, r9, hs', ht', h1', h2']
            exact rest
  obtain ⟨_, _, h1, rfl, Y, rfl, h2, h3, h4, h5⟩ := LX_s main
  exact ⟨Y, h1, h2, h3, h4, h5⟩
end
end Ab
namespace Ab
def outB (l : List PR) : Blk := ⟨some 2, prs l, if l = [] then .nul else .live⟩
theorem zsZc : ∀ {l : List PR} {i : Nat}, i < l.length → (prs l).drop (i * 2) = .int (ix l (i : Int)).1 :: .int (ix l (i : Int)).2 :: (prs l).drop (i * 2 + 2)
  | p :: l, 0, _ => rfl
  | p :: l, i + 1, h => by
    have := zsZc (l := l) (i := i) (by simpa using h)
    have e : ix (p :: l) ((i + 1 : Nat) : Int) = ix l (i : Int) := by simp [ix]
    rw [e, show (i + 1) * 2 = i * 2 + 1 + 1 by omega]
    exact this
theorem zx37 {l : List PR} {i : Nat} {K : AV → Prop} {t : Tk K} (h : i < l.length) : pT (prs l) (0 + i * 2) (some 2) K t = K (.agg [.int (ix l (i : Int)).1, .int (ix l (i : Int)).2]) := by
  have := zsZc h
  unfold pT part
  rw [Nat.zero_add]
  simp only
  rw [if_pos (by rw [zVGk]; omega), this]
  rfl
section
variable {X : XM} {f : Bool} {s t : Nat}
theorem m_jk (h : Xok X) (B : Blk) : blk (mem (X.add B)) (num X.N (.dy X.dyn.length)) = some B := by
  have := zTeC (X := X.add B) h.n.1 (x := .dy X.dyn.length) (by show X.dyn.length < (X.dyn ++ [DT.jk B]).length; simp)
  have e : (X.add B).N = X.N := rfl
  rw [e] at this
  rw [this]
  show some (dcb _ (X.dyn ++ [.jk B])[X.dyn.length]?) = _
  rw [List.getElem?_append_right (Nat.le_refl _), Nat.sub_self]
  rfl
theorem st_jk (h : Xok X) (B B' : Blk) : setB (mem (X.add B)) (num X.N (.dy X.dyn.length)) B' = mem (X.add B') := by
  refine zaSl (X := X.add B) (Y := X.add B') h.n.1 rfl (by simp [XM.add]) (x := .dy X.dyn.length) (by show X.dyn.length < (X.dyn ++ [DT.jk B]).length; simp) _ ?_ fun y hy => ?_
  · show dcb _ (X.dyn ++ [.jk B'])[X.dyn.length]? = _
    rw [List.getElem?_append_right (Nat.le_refl _), Nat.sub_self]
    rfl
  · cases y with
    | dy i =>
      have hi : i ≠ X.dyn.length := fun e => hy (by rw [e])
      show dcb _ (X.dyn ++ [.jk B'])[i]? = dcb _ (X.dyn ++ [.jk B])[i]?
      by_cases hl : i < X.dyn.length
      · rw [List.getElem?_append_left hl, List.getElem?_append_left hl, List.getElem?_eq_getElem hl]
        cases X.dyn[i] <;> rfl
      · rw [List.getElem?_eq_none (by simp; omega), List.getElem?_eq_none (by simp; omega)]; rfl
    | _ => rfl
theorem zAHG {b b2 : Bs} {B : Blk} : ((X.setB' f b).add B).setB' f b2 = (X.setB' f b2).add B := by cases f <;> rfl
theorem z297 {D : Int → Int → Bool} {p : PR} {l : List PR} : tkr D (p :: l) = if D p.1 p.2 = true then tkr D l else ((p :: (tkr (updD D p.1 p.2) l).1), (tkr (updD D p.1 p.2) l).2) := rfl
def XM.tkm (X : XM) (f : Bool) (D : Int → Int → Bool) (l : List PR) : XM := (X.setB' f ⟨(X.b f).W, D, (X.b f).R⟩).add (outB l)
theorem zVel (h : Xok X) (D : Int → Int → Bool) (l : List PR) : Xok (X.tkm f D l) := zQld (zDSv h _ D) _
theorem tkm_N {D : Int → Int → Bool} {l : List PR} : (X.tkm f D l).N = X.N := zKgL.1
theorem tkm_b {D : Int → Int → Bool} {l : List PR} {g : Bool} : (X.tkm f D l).b g = if g = f then ⟨(X.b f).W, D, (X.b f).R⟩ else X.b g := by rw [← zLD3]; rfl
theorem tkm_0 (h : Xok X) : mem X ++ [⟨some 2, [], .nul⟩] = mem (X.tkm f (X.b f).D []) := by
  have : X.tkm f (X.b f).D [] = X.add (outB []) := by unfold XM.tkm; cases f <;> rfl
  rw [this]
  exact zxtn h _
theorem zb07 (h : Xok X) (D : Int → Int → Bool) (l : List PR) : blk (mem (X.tkm f D l)) (num X.N (.box f)) = some ⟨some 3, [.sl (num X.N (.wo f)) X.N 0 X.N, .sl (num X.N (.dno f)) X.N 0 X.N, .sl (num X.N (.rdy f)) 1025 0 1025], .live⟩ := by
  have := m_box (f := f) (zVel (f := f) h D l)
  rwa [tkm_N] at this
theorem tk_do (h : Xok X) (D : Int → Int → Bool) (l : List PR) : blk (mem (X.tkm f D l)) (num X.N (.dno f)) = some ⟨none, rowS X.N (.dr f), .live⟩ := by
  have := m_do (f := f) (zVel (f := f) h D l)
  rwa [tkm_N] at this
theorem tk_dr (h : Xok X) (hs : s < X.N) (D : Int → Int → Bool) (l : List PR) : blk (mem (X.tkm f D l)) (num X.N (.dr f s)) = some ⟨none, (drow X.N D s).map .bool, .live⟩ := by
  have := m_dr (f := f) (s := s) (zVel (f := f) h D l) (by rw [tkm_N]; exact hs)
  rwa [tkm_N, tkm_b, if_pos rfl] at this
theorem zEXR (h : Xok X) (D : Int → Int → Bool) (l : List PR) : blk (mem (X.tkm f D l)) (num X.N (.rdy f)) = some ⟨none, rdc (X.tkm f D l) f, .live⟩ := by
  have := m_rdy (f := f) (zVel (f := f) h D l)
  rwa [tkm_N] at this
theorem z411 {D : Int → Int → Bool} {l : List PR} : (X.setB' f ⟨(X.b f).W, D, (X.b f).R⟩).dyn.length = X.dyn.length := by rw [zKgL.2.2.2.2.2]
theorem zSIj (h : Xok X) (D : Int → Int → Bool) (l : List PR) : blk (mem (X.tkm f D l)) (num X.N (.dy X.dyn.length)) = some (outB l) := by
  have := m_jk (zDSv (f := f) h (X.b f).W D) (outB l)
  rwa [zKgL.1, z411 (l := l)] at this
theorem zaCX (h : Xok X) {n : Nat} (hr : (X.b f).R n ≠ []) (D : Int → Int → Bool) (l : List PR) : blk (mem (X.tkm f D l)) (num X.N (.dy (X.ri f n))) = some ⟨some 2, prs ((X.b f).R n), .live⟩ := by
  have e : (X.tkm f D l).ri = X.ri := zKgL.2.2.2.1
  have := (m_row (f := f) (k := n) (zVel (f := f) h D l) (by rw [tkm_b, if_pos rfl]; exact hr)).2
  rwa [tkm_N, tkm_b, if_pos rfl, e] at this
theorem zjCP (h : Xok X) (hs : s < X.N) (ht : t < X.N) (D : Int → Int → Bool) (l : List PR) : setB (mem (X.tkm f D l)) (num X.N (.dr f s)) ⟨none, putR ((drow X.N D s).map .bool) t [.bool true], .live⟩ = mem (X.tkm f (updD D (s : Int) (t : Int)) l) := by
  have := zrE1 (X := X.tkm f D l) (f := f) (s := s) (t := t) (zVel h D l) (by rw [tkm_N]; exact hs) (by rw [tkm_N]; exact ht)
  rw [tkm_N, tkm_b, if_pos rfl] at this
  dsimp only at this
  rw [putR1]
  rw [List.map_set] at this
  rw [this]
  unfold XM.tkm
  rw [zAHG]
theorem zXIb (h : Xok X) (D : Int → Int → Bool) (l l' : List PR) : setB (mem (X.tkm f D l)) (num X.N (.dy X.dyn.length)) (outB l') = mem (X.tkm f D l') := by
  have := st_jk (zDSv (f := f) h (X.b f).W D) (outB l) (outB l')
  rwa [zKgL.1, z411 (l := l)] at this
theorem zMUw (h : Xok X) {n : Nat} (hn : n < 1025) (hR : ((X.b f).R n).length ≤ 1000000) (hlow : ∀ p ∈ (X.b f).R n, (0 ≤ p.1 ∧ p.1 < (X.N : Int)) ∧ (0 ≤ p.2 ∧ p.2 < (X.N : Int))) : LX L zSWF [.ptr (num X.N (.box f)) (kst (some 3)) 0, .int n] (mem X) (fun r τ => r = .sl (num X.N (.dy X.dyn.length)) (2 * ((X.b f).tk n).1.length) 0 ((X.b f).tk n).1.length ∧ τ = mem (X.tkm f ((X.b f).tk n).2.D ((X.b f).tk n).1)) := by
  refine zLCf rfl ?_
  have l6 := fun (D : Int → Int → Bool) (l : List PR) => zb0R (X := X.tkm f D l) (f := f)
  have el := zn7S (X := X.tkm f (X.b f).D []) (f := f) hn
  have hn' := eq_true (show (n : Int) < 1025 by omega)
  have hn'' := eq_true hn
  have a0 := tkm_0 (f := f) h
  have a1 := zb07 (f := f) h
  have a6 := zEXR (f := f) h
  have mlX : (mem X).length = num X.N (.dy X.dyn.length) := zKS9
  have hRt : ((X.tkm f (X.b f).D []).b f).R = (X.b f).R := by rw [tkm_b, if_pos rfl]
  rw [hRt, tkm_N, show (X.tkm f (X.b f).D []).ri = X.ri from zKgL.2.2.2.1] at el
  by_cases hr : (X.b f).R n = []
  · rw [if_pos hr] at el
    have et : (X.b f).tk n = ([], X.b f) := by
      unfold Bs.tk
      rw [hr]
      rfl
    rw [et]
    dsimp only
    simp [-zJRc, a0, a1, a6, l6, el, hn', hn'']
    refine zv8C (fun _ : Unit => []) (fun _ => mem (X.tkm f (X.b f).D [])) (fun _ => True) (fun _ => 0) () (by simp [sets]) trivial ?_
    rintro ⟨⟩ _
    simp [-zJRc, mlX]
  · rw [if_neg hr] at el
    have hm := zaCX (f := f) h hr
    have hdo := tk_do (f := f) h
    have hdr := fun (s : Nat) (hs : s < X.N) => tk_dr (f := f) (s := s) h hs
    have hst1 := fun (s t : Nat) (hs : s < X.N) (ht : t < X.N) => zjCP (f := f) (s := s) (t := t) h hs ht
    have hst2 := zXIb (f := f) h
    have hout := zSIj (f := f) h
    have r2 := zCaJ (N := X.N) (g := .dr f)
    have hpl := zVGk (l := (X.b f).R n)
    simp [-zJRc, a0, a1, a6, l6, el, hn', hn'']
    have e1 : (X.b f).tk n = ((tkr (X.b f).D ((X.b f).R n)).1, ⟨(X.b f).W, (tkr (X.b f).D ((X.b f).R n)).2, (X.b f).R⟩) := rfl
    rw [e1]
    dsimp only
    generalize hl : (X.b f).R n = l at *
    generalize (X.b f).D = D0 at *
    refine zv8C (fun p : Nat × (Int → Int → Bool) × List PR => [(2, .int p.1), (6, .sl (num X.N (.dy X.dyn.length)) (2 * p.2.2.length) 0 p.2.2.length)]) (fun p => mem (X.tkm f p.2.1 p.2.2)) (fun p => p.1 ≤ l.length ∧ p.2.2.length ≤ p.1 ∧ tkr D0 l = (p.2.2 ++ (tkr p.2.1 (l.drop p.1)).1, (tkr p.2.1 (l.drop p.1)).2)) (fun p => l.length - p.1) (0, D0, []) (by simp [sets, mlX]) (by simp) ?_
    rintro ⟨i, D, out⟩ ⟨i1, i2, i3⟩
    dsimp only at i1 i2 i3 ⊢
    by_cases hi : i < l.length
    · have hp := hlow _ (zmAQ (l := l) (n := (i : Int)) (by omega) (by omega))
      have p2 := fun (K : AV → Prop) (t : Tk K) => zx37 (l := l) (i := i) (K := K) (t := t) hi
      have hdrop : l.drop i = ix l (i : Int) :: l.drop (i + 1) := by rw [zrZW hi]; exact List.drop_eq_getElem_cons hi
      rw [hdrop] at i3
      generalize hP : ix l (i : Int) = P at *
      obtain ⟨⟨s0, s1⟩, t0, t1⟩ := hp
      obtain ⟨u, hu⟩ := Int.eq_ofNat_of_zero_le s0
      obtain ⟨v, hv⟩ := Int.eq_ofNat_of_zero_le t0
      have hun : u < X.N := by omega
      have hvn : v < X.N := by omega
      have hun' := eq_true hun
      have hvn' := eq_true hvn
      have g1 := hdr u hun
      have g2 := z2sE (N := X.N) (g := .dr f) hun
      have g3 := zGyT (s := u) (N := X.N) (D := D)
      have g4 := z8jd (s := u) (N := X.N) (D := D) hvn
      have g5 := z6JH (s := u) (N := X.N) (D := D) hvn
      have hv1 := eq_true (show v + 1 ≤ X.N by omega)
      have g6 := hst1 u v hun hvn D out
      rw [putR1] at g6
      have g7 : ∀ D, blk (mem (X.tkm f D out)) (num X.N (.dy X.dyn.length)) = some ⟨some 2, prs out, if out = [] then .nul else .live⟩ := fun D => hout D out
      have hPe : P = ((u : Int), (v : Int)) := Prod.ext hu hv
      have g8 : ∀ D, setB (mem (X.tkm f D out)) (num X.N (.dy X.dyn.length)) ⟨some 2, prs out ++ [.int u, .int v], .live⟩ = mem (X.tkm f D (out ++ [P])) := fun D => by
        rw [← hst2 D out (out ++ [P]), outB, if_neg (by simp), zoLh, hPe]
      have hol := zVGk (l := out)
      have hk2 := eq_true (show 2 * out.length = out.length * kst (some 2) by simp [kst]; omega)
      rw [z297, hu, hv] at i3
      rw [hu, hv] at p2
      have hi' := eq_true (show 0 + i * 2 + 2 ≤ (prs l).length by rw [hpl]; omega)
      cases hD : D (u : Int) (v : Int) with
      | true =>
        rw [hD] at g4 g5 i3
        rw [if_pos rfl] at i3
        simp [-zJRc, hi, hm, hpl, ↓p2, a1, hdo, r2, g1, g2, g3, g4, g5, hun', hvn']
        exact ⟨by omega, zGkM (i + 1, D, out) (by simp) rfl ⟨by dsimp only; omega, by dsimp only; omega, i3⟩ (by dsimp only; omega)⟩
      | false =>
        rw [hD] at g4 g5 i3
        rw [if_neg (by simp)] at i3
        simp [-zJRc, hi, hm, hpl, ↓p2, a1, hdo, r2, g1, g2, g3, g4, g5, hun', hvn', hv1, g6, g7, g8, hol, hk2]
        exact ⟨by split <;> simp, by omega, by omega, zGkM (i + 1, updD D (u : Int) (v : Int), out ++ [P]) (by simp [Nat.mul_add]) rfl ⟨by dsimp only; omega, by simp; omega, by dsimp only; rw [i3]; simp⟩ (by dsimp only; omega)⟩
    · have ei : i = l.length := by omega
      subst ei
      rw [List.drop_length] at i3
      rw [i3]
      simp [-zJRc, tkr]
end
end Ab
namespace Ab
theorem zWSm : ∀ {l : List CR} {i : Nat}, i < l.length → (crs l).drop (i * 3) = .int (ix l (i : Int)).1 :: .int (ix l (i : Int)).2.1 :: .int (ix l (i : Int)).2.2 :: (crs l).drop (i * 3 + 3)
  | p :: l, 0, _ => rfl
  | p :: l, i + 1, h => by
    have := zWSm (l := l) (i := i) (by simpa using h)
    have e : ix (p :: l) ((i + 1 : Nat) : Int) = ix l (i : Int) := by simp [ix]
    rw [e, show (i + 1) * 3 = i * 3 + 1 + 1 + 1 by omega]
    exact this
theorem zLL4 : ∀ {l : List CR}, (crs l).length = 3 * l.length
  | [] => rfl
  | p :: l => by
    have := zLL4 (l := l)
    simp only [crs, List.flatMap_cons, List.length_append, List.length_cons, List.length_nil] at this ⊢; omega
theorem zmX1 {l : List CR} {i : Nat} {K : AV → Prop} {t : Tk K} (h : i < l.length) : pT (crs l) (0 + i * 3) (some 3) K t = K (.agg [.int (ix l (i : Int)).1, .int (ix l (i : Int)).2.1, .int (ix l (i : Int)).2.2]) := by
  have := zWSm h
  unfold pT part
  rw [Nat.zero_add]
  simp only
  rw [if_pos (by rw [zLL4]; omega), this]
  rfl
structure Zf (Z : XM) (N : Nat) (bx : List AV) : Prop where
  box : ∀ f, blk (mem Z) (num N (.box f)) = some ⟨some 3, [.sl (num N (.wo f)) N 0 N, .sl (num N (.dno f)) N 0 N, .sl (num N (.rdy f)) 1025 0 1025], .live⟩
  wo : ∀ f, blk (mem Z) (num N (.wo f)) = some ⟨none, rowS N (.wr f), .live⟩
  wr : ∀ f s, s < N → blk (mem Z) (num N (.wr f s)) = some ⟨none, wrow N (Z.b f).W s, .live⟩
  dno : ∀ f, blk (mem Z) (num N (.dno f)) = some ⟨none, rowS N (.dr f), .live⟩
  dr : ∀ f s, s < N → blk (mem Z) (num N (.dr f s)) = some ⟨none, (drow N (Z.b f).D s).map .bool, .live⟩
  co : blk (mem Z) (num N .co) = some ⟨none, coc Z, .live⟩
  bx : blk (mem Z) (num N .bx) = some ⟨some 14, bx ++ [.ptr (num N (.box true)) (kst (some 3)) 0, .ptr (num N (.box false)) (kst (some 3)) 0, .sl (num N .co) N 0 N], .live⟩
theorem zf_of {Z : XM} {N : Nat} {bx : List AV} (h : Xok Z) (eN : Z.N = N) (eB : Z.bx = bx) : Zf Z N bx := by
  subst eN; subst eB
  exact ⟨fun f => m_box h, fun f => m_wo h, fun f s hs => m_wr h hs, fun f => m_do h, fun f s hs => m_dr h hs, zTeC h.n.1 (x := .co) trivial, zTeC h.n.1 (x := .bx) trivial⟩
theorem z_dy {Z : XM} {N i : Nat} {d : DT} (h : Xok Z) (eN : Z.N = N) (hd : Z.dyn[i]? = some d) : blk (mem Z) (num N (.dy i)) = some (dcb Z (some d)) := by
  subst eN
  rw [zTeC h.n.1 (x := .dy i) (List.getElem?_eq_some_iff.1 hd).1]
  show some (dcb Z Z.dyn[i]?) = _
  rw [hd]
theorem z_ext {X Y : XM} {i : Nat} {d : DT} (h : Xe X Y) (hd : X.dyn[i]? = some d) : Y.dyn[i]? = some d := by
  obtain ⟨e, he⟩ := h.d
  rw [he, List.getElem?_append_left (List.getElem?_eq_some_iff.1 hd).1, hd]
theorem tkm_e {X : XM} {f : Bool} (h : Xok X) (D : Int → Int → Bool) (l : List PR) : Xe X (X.tkm f D l) ∧ (X.tkm f D l).dyn[X.dyn.length]? = some (.jk (outB l)) ∧ (X.tkm f D l).A = X.A := by
  have e := (zKgL (X := X) (f := f) (b := ⟨(X.b f).W, D, (X.b f).R⟩))
  refine ⟨⟨zVel h D l, e.1, e.2.1, [.jk (outB l)], ?_⟩, ?_, e.2.2.1⟩
  · show _ ++ _ = _
    rw [e.2.2.2.2.2]
  · show ((X.setB' f ⟨(X.b f).W, D, (X.b f).R⟩).dyn ++ [DT.jk (outB l)])[X.dyn.length]? = _
    rw [e.2.2.2.2.2, List.getElem?_append_right (Nat.le_refl _), Nat.sub_self]
    rfl
theorem zf1d {X : XM} : (coc X).length = X.N := by simp [coc]
theorem zsZ6 {X : XM} {t : Nat} (h : t < X.N) : elm (coc X) t = some (if X.A (t : Int) = [] then .snil else .sl (num X.N (.dy (X.ai t))) (3 * (X.A (t : Int)).length) 0 (X.A (t : Int)).length) := by rw [znyW]; simp [coc, h]
end Ab
