/- From the interpreter's answer to a given row's statement: arguments that read as data are abstract values; a law that the interpreter finds true returns true and leaves all as it was. Condition: the checks of types and functions, which are closed facts. -/
import Derived.Carry
import Derived.ChangeSame
import Derived.ProofKit
import Derived.OpenShut
import Derived.Test.YtkchnhfeebkogaaAbC
import Derived.Test.YtkchnhfeebkogaaAbL
set_option linter.all false
namespace Ab
open Go Go.ChangeShapes Go.WideShapes Go.RowKit
variable {P : Program}
inductive Ty where
  | int | bool | str
  | ik (k : Nat)
  | sl (e : Ty)
  | st (fs : List Ty)
mutual
def Ty.n : Ty → Nat
  | .st fs => Ty.ns fs
  | _ => 1
def Ty.ns : List Ty → Nat
  | [] => 0
  | t :: r => t.n + Ty.ns r
end
mutual
def tyOk (P : Program) : Ty → TypeId → Bool
  | .int, t => match P.underlying t with
    | some (.int .i64) => true
    | _ => false
  | .bool, t => match P.underlying t with
    | some .bool => true
    | _ => false
  | .str, t => match P.underlying t with
    | some .string => true
    | _ => false
  | .ik k, t => match P.underlying t with
    | some (.int K) => decide (kindOf k = some K)
    | _ => false
  | .sl e, t => match P.underlying t with
    | some (.slice u) => tyOk P e u && P.cellsOf u == e.n && decide (0 < e.n)
    | _ => false
  | .st fs, t => match P.underlying t with
    | some (.struct gs) => P.cellsOf t == Ty.ns fs && fieldsOk P fs gs.toList 0
    | some (.array n u) => P.cellsOf t == Ty.ns fs && fs.length == n && arrOk P fs u
    | _ => false
def arrOk (P : Program) : List Ty → TypeId → Bool
  | [], _ => true
  | T :: r, u => P.cellsOf u == T.n && tyOk P T u && arrOk P r u
def fieldsOk (P : Program) : List Ty → List Field → Nat → Bool
  | [], [], _ => true
  | T :: r, f :: s, off => f.offset == off && P.cellsOf f.type == T.n && tyOk P T f.type && fieldsOk P r s (off + T.n)
  | _, _, _ => false
end
def inK (k : Nat) (n : Int) : Bool := match kindOf k with
  | some K => decide (K.min ≤ n) && decide (n ≤ K.max)
  | none => false
mutual
def Ty.has : Ty → AV → Prop
  | .int, x => ∃ n, x = .int n ∧ inR n = true
  | .bool, x => ∃ b, x = .bool b
  | .str, x => ∃ s, x = .str s
  | .ik k, x => ∃ n, x = .ik k n ∧ inK k n = true
  | .sl e, x => ∃ l, x = .imm false l ∧ l.length ≤ maxLen ∧ ∀ y, y ∈ l → e.has y
  | .st fs, x => ∃ xs, x = .agg (xs.flatMap AV.cells) ∧ Ty.hasL fs xs
def Ty.hasL : List Ty → List AV → Prop
  | [], xs => xs = []
  | T :: r, xs => ∃ x s, xs = x :: s ∧ T.has x ∧ Ty.hasL r s
end
theorem zMgE {l m : List AV} (h : noLocs l = true) (k : noLocs m = true) : noLocs (l ++ m) = true := by
  induction l with
  | nil => exact k
  | cons a r ih =>
    simp only [noLocs, Bool.and_eq_true, List.cons_append] at h ⊢
    exact ⟨h.1, ih h.2⟩
theorem zdBv {x : AV} (h : noLoc x = true) : noLocs x.cells = true := by
  cases x <;> simp_all [AV.cells, noLocs, noLoc]
theorem zgOO {l : List AV} (h : ∀ y, y ∈ l → noLoc y = true) : noLocs l = true := by
  induction l with
  | nil => rfl
  | cons a r ih =>
    simp only [noLocs, Bool.and_eq_true]
    exact ⟨h a (by simp), ih fun y hy => h y (by simp [hy])⟩
def base0 (w : World) : Ctx := ctxOf [] (fun _ => 0) (fun k => k < w.heap.size)
theorem zUyH {C : Ctx} {H : Array Obj} {x : AV} {cs : List Value} (hx : (∃ l, x = .agg l) ∨ ∃ v, cs = [v]) (h : VRL C H x.cells cs) (h1 : ∀ y ∈ cs, y.oneCell' = true) : ∃ v, VR C H x v ∧ v.cells = cs.toArray := by
  by_cases ha : ∃ l, x = .agg l
  · obtain ⟨l, rfl⟩ := ha
    exact ⟨.agg cs.toArray, by unfold VR; exact ⟨cs, rfl, h, h1⟩, rfl⟩
  · have e : x.cells = [x] := by cases x <;> first | rfl | exact absurd ⟨_, rfl⟩ ha
    rcases hx with hx | ⟨v, rfl⟩
    · exact absurd hx ha
    · rw [e] at h
      obtain ⟨v', s, e1, e2, e3⟩ := h
      simp at e1
      obtain ⟨rfl, rfl⟩ := e1
      exact ⟨v, e2, by rw [zHSU (h1 v (by simp))]⟩
theorem z3hV {w : World} {a : Addr} {k : Nat} {cs : List Value} (hk : 0 < k) (h : w.cells? 0 a k = some cs) :
    a.spot = none ∧ cs.length = k ∧ ∃ c el fz, w.heap[a.block]? = some (.cells c el fz) ∧ ∀ j, j < k → c[a.off + j]? = cs[j]? := by
  unfold World.cells? at h
  simp only [Nat.zero_le, if_true] at h
  have hl := mapM_some_length h
  have hg := fun j (hj : j < k) => mapM_some_get h j j (by simp [hj])
  simp only [List.length_range] at hl
  have h0 := hg 0 hk
  obtain ⟨v, hv⟩ : ∃ v, cs[0]? = some v := ⟨cs[0]'(by omega), by simp [show 0 < cs.length by omega]⟩
  rw [hv] at h0
  simp only [World.cell?, Addr.add, if_true] at h0
  cases hb : w.heap[a.block]? with
  | none => simp [hb] at h0
  | some o =>
    cases o with
    | cells c el fz =>
      have hs : a.spot = none := by
        cases hq : a.spot with
        | none => rfl
        | some q => simp [hb, hq] at h0
      refine ⟨hs, hl, c, el, fz, rfl, fun j hj => ?_⟩
      have := hg j hj
      rw [← this]
      simp only [World.cell?, Addr.add]
      by_cases hj0 : j = 0
      · subst hj0; simp [hb, hs]
      · simp [hj0, hb]
    | _ => simp [hb] at h0
section
variable {H : Type} {enc : TypeId × Value → H} {w : World}
structure Rd (w : World) (T : Ty) (cs : List Value) (a : AV) : Prop where
  has : T.has a
  loc : noLoc a = true
  vr : VRL (base0 w) w.heap a.cells cs
  one : ∀ y ∈ cs, y.oneCell' = true
  len : cs.length = T.n
  alone : (∃ l, a = .agg l) ∨ ∃ v, cs = [v]
theorem Rd.scalar {T : Ty} {a : AV} {v : Value} (h1 : T.has a) (h2 : noLoc a = true) (h3 : VR (base0 w) w.heap a v) (h4 : v.oneCell' = true) (h5 : T.n = 1) (h6 : a.cells = [a]) : Rd w T [v] a :=
  ⟨h1, h2, by rw [h6]; exact ⟨v, [], rfl, h3, rfl⟩, by simpa using h4, by simp [h5], .inr ⟨v, rfl⟩⟩
mutual
theorem rd : ∀ (T : Ty) {n : Nat} {t : TypeId} {cs : List Value} {x : DataW H × List MemPlace}, tyOk P T t = true → DataW.trod enc P w 0 (fun _ => true) true n t cs = some x → ∃ a, Rd w T cs a
  | .int, n, t, cs, x, ht, h => by
    have hu : P.underlying t = some (.int .i64) := by
      unfold tyOk at ht; split at ht <;> simp_all
    obtain ⟨m, rfl, _, hw⟩ := DataW.trod_int hu h
    refine ⟨.int m, Rd.scalar ⟨m, rfl, ?_⟩ rfl rfl rfl rfl rfl⟩
    have := by simpa [Lit.wf, IntKind.min, IntKind.max, IntKind.signed, IntKind.bits] using hw
    simp only [inR, Bool.and_eq_true, decide_eq_true_eq]; omega
  | .bool, n, t, cs, x, ht, h => by
    have hu : P.underlying t = some .bool := by
      unfold tyOk at ht; split at ht <;> simp_all
    obtain ⟨m, rfl, _⟩ := DataW.trod_bool hu h
    exact ⟨.bool m, Rd.scalar ⟨m, rfl⟩ rfl rfl rfl rfl rfl⟩
  | .str, n, t, cs, x, ht, h => by
    have hu : P.underlying t = some .string := by
      unfold tyOk at ht; split at ht <;> simp_all
    obtain ⟨m, rfl, _⟩ := DataW.trod_string hu h
    exact ⟨.str m.data.toList, Rd.scalar ⟨_, rfl⟩ rfl (by unfold VR; simp) rfl rfl rfl⟩
  | .ik k, n, t, cs, x, ht, h => by
    have hu : ∃ K, P.underlying t = some (.int K) ∧ kindOf k = some K := by
      unfold tyOk at ht
      split at ht
      · rename_i K h1; exact ⟨K, h1, by simpa using ht⟩
      · simp at ht
    obtain ⟨K, hu, hk⟩ := hu
    obtain ⟨m, rfl, _, hw⟩ := DataW.trod_int hu h
    refine ⟨.ik k m, Rd.scalar ⟨m, rfl, ?_⟩ rfl (by unfold VR; exact ⟨K, hk, rfl⟩) rfl rfl rfl⟩
    unfold inK
    rw [hk]
    have := by simpa [Lit.wf] using hw
    simp only [Bool.and_eq_true, decide_eq_true_eq]; omega
  | .sl e, n, t, cs, x, ht, h => by
    have key : ∃ u, P.underlying t = some (.slice u) ∧ tyOk P e u = true ∧ P.cellsOf u = e.n ∧ 0 < e.n := by
      unfold tyOk at ht; split at ht
      · rename_i u hu
        simp only [Bool.and_eq_true, beq_iff_eq, decide_eq_true_eq] at ht
        exact ⟨u, hu, ht.1.1, ht.1.2, ht.2⟩
      · simp at ht
    obtain ⟨u, hu, h1, h2, h3⟩ := key
    rcases DataW.trod_slice hu h with ⟨rfl, _⟩ | ⟨a, len, cap, elems, rest, m, _, rfl, _, _, hl, hm, hel, hget, hsp, _⟩
    · exact ⟨.imm false [], Rd.scalar ⟨[], rfl, by simp, by simp⟩ rfl (by unfold VR; exact ⟨rfl, .inl ⟨rfl, none, rfl, by simp⟩⟩) rfl rfl rfl⟩
    · rw [h2] at hget hsp
      have each : ∀ i, i < len → ∃ a' cs', w.cells? 0 (a.add (i * e.n)) e.n = some cs' ∧ Rd w e cs' a' := fun i hi => by
        have hg := hget i hi
        obtain ⟨y, hy⟩ : ∃ y, elems[i]? = some y := ⟨elems[i]'(by omega), by simp [show i < elems.length by omega]⟩
        rw [hy, Option.bind_eq_some_iff] at hg
        obtain ⟨cs', g1, g2⟩ := hg
        obtain ⟨a', ha⟩ := rd e h1 g2
        exact ⟨a', cs', g1, ha⟩
      have all : ∀ k, k ≤ len → ∃ l : List AV, l.length = k ∧ ∀ i y, l[i]? = some y → ∃ cs', w.cells? 0 (a.add (i * e.n)) e.n = some cs' ∧ Rd w e cs' y := by
        intro k
        induction k with
        | zero => intro _; exact ⟨[], rfl, by simp⟩
        | succ k ih =>
          intro hk
          obtain ⟨l, l1, l2⟩ := ih (by omega)
          obtain ⟨a', cs', c1, c2⟩ := each k (by omega)
          refine ⟨l ++ [a'], by simp [l1], fun i y hi => ?_⟩
          by_cases hik : i < l.length
          · rw [List.getElem?_append_left hik] at hi; exact l2 i y hi
          · have : i < (l ++ [a']).length := (List.getElem?_eq_some_iff.1 hi).1
            simp at this
            obtain rfl : i = k := by omega
            rw [List.getElem?_append_right (by omega), l1] at hi
            simp at hi; subst hi
            exact ⟨cs', c1, c2⟩
      obtain ⟨l, l1, l2⟩ := all len (Nat.le_refl _)
      have hhas : ∀ y, y ∈ l → e.has y := fun y hy => by
        obtain ⟨i, hi⟩ := List.mem_iff_getElem?.1 hy
        obtain ⟨_, _, hr⟩ := l2 i y hi
        exact hr.has
      have hloc : noLocs l = true := zgOO fun y hy => by
        obtain ⟨i, hi⟩ := List.mem_iff_getElem?.1 hy
        obtain ⟨_, _, hr⟩ := l2 i y hi
        exact hr.loc
      have hvr : VR (base0 w) w.heap (.imm false l) (.slice (some a) len cap) := by
        unfold VR
        refine ⟨hloc, ?_⟩
        by_cases hc0 : cap = 0
        · subst hc0
          obtain rfl : len = 0 := by omega
          exact .inl ⟨List.eq_nil_of_length_eq_zero l1, some a, rfl, by simp⟩
        · have hb : a.spot = none ∧ ∃ c el fz, w.heap[a.block]? = some (.cells c el fz) := by
            by_cases hl0 : 0 < len
            · obtain ⟨_, cs', c1, _⟩ := each 0 hl0
              rw [Nat.zero_mul, show a.add 0 = a from rfl] at c1
              obtain ⟨q1, _, c, el, fz, q2, _⟩ := z3hV h3 c1
              exact ⟨q1, c, el, fz, q2⟩
            · obtain ⟨r1, r2⟩ := hsp rfl
              have hg := r2 0 (by omega)
              obtain ⟨y, hy⟩ : ∃ y, rest[0]? = some y := ⟨rest[0]'(by omega), by simp [show 0 < rest.length by omega]⟩
              rw [hy, Option.bind_eq_some_iff] at hg
              obtain ⟨cs', g1, _⟩ := hg
              rw [show len + 0 = 0 by omega, Nat.zero_mul, show a.add 0 = a from rfl] at g1
              obtain ⟨q1, _, c, el, fz, q2, _⟩ := z3hV h3 g1
              exact ⟨q1, c, el, fz, q2⟩
          obtain ⟨hs, c, el, fz, hb⟩ := hb
          refine .inr ⟨a.block, a.off, cap, e.n, c, el, fz, ?_, by omega, (Array.getElem?_eq_some_iff.1 hb).1, hb, VRI.of fun i y hi => ?_⟩
          · rw [l1, ← hs]
          · obtain ⟨cs', c1, hr⟩ := l2 i y hi
            obtain ⟨q1, q2, c', el', fz', q3, q4⟩ := z3hV h3 c1
            have eb : (a.add (i * e.n)).block = a.block ∧ (a.add (i * e.n)).off = a.off + i * e.n := by
              unfold Addr.add; split
              · rename_i h0; rw [h0]; exact ⟨rfl, rfl⟩
              · exact ⟨rfl, rfl⟩
            rw [eb.1, hb] at q3
            simp only [Option.some.injEq, Obj.cells.injEq] at q3
            obtain ⟨rfl, _, _⟩ := q3
            obtain ⟨v, v1, v2⟩ := zUyH hr.alone hr.vr hr.one
            refine ⟨v, v1, by rw [v2]; simpa using q2, fun j hj => ?_⟩
            have := q4 j hj
            rw [eb.2] at this
            rw [this, v2, List.getElem?_toArray]
      exact ⟨.imm false l, Rd.scalar ⟨l, rfl, by omega, hhas⟩ rfl hvr rfl rfl rfl⟩
  | .st fs, n, t, cs, x, ht, h => by
    have key : (∃ gs, P.underlying t = some (.struct gs) ∧ P.cellsOf t = Ty.ns fs ∧ fieldsOk P fs gs.toList 0 = true) ∨ ∃ k u, P.underlying t = some (.array k u) ∧ P.cellsOf t = Ty.ns fs ∧ fs.length = k ∧ arrOk P fs u = true := by
      unfold tyOk at ht; split at ht
      · rename_i gs hu
        simp only [Bool.and_eq_true, beq_iff_eq] at ht
        exact .inl ⟨gs, hu, ht.1, ht.2⟩
      · rename_i k u hu
        simp only [Bool.and_eq_true, beq_iff_eq] at ht
        exact .inr ⟨k, u, hu, ht.1.1, ht.1.2, ht.2⟩
      · simp at ht
    rcases key with ⟨gs, hu, h1, h2⟩ | ⟨k, u, hu, h1, hk, h2⟩
    case inr =>
      obtain ⟨xs, m, _, _, hl, hlen, hf⟩ := DataW.trod_array hu h
      obtain ⟨as, a1, a2, a3, a4⟩ := rdA fs 0 h2 (cs := cs) (fun i hi => by
        have := hf i (by omega)
        have hlt : i < xs.length := by omega
        rw [List.getElem?_eq_getElem hlt] at this
        exact ⟨m, _, by rw [Nat.zero_add]; exact this⟩)
      have e : (cs.drop 0).take (Ty.ns fs) = cs := by rw [List.drop_zero, List.take_of_length_le (by omega)]
      rw [e] at a3 a4
      exact ⟨.agg (as.flatMap AV.cells), ⟨⟨as, rfl, a1⟩, a2, a3, a4, by rw [hl, h1]; rfl, .inl ⟨_, rfl⟩⟩⟩
    obtain ⟨xs, m, _, _, hl, hlen, hf⟩ := DataW.trod_struct hu h
    obtain ⟨as, a1, a2, a3, a4⟩ := rdL fs 0 h2 (cs := cs) (fun i f hi => by
      have hi' : gs[i]? = some f := by simpa using hi
      have := hf i f hi'
      have hlt : i < xs.length := by rw [hlen]; exact (Array.getElem?_eq_some_iff.1 hi').1
      rw [List.getElem?_eq_getElem hlt] at this
      exact ⟨m, _, this⟩)
    have e : (cs.drop 0).take (Ty.ns fs) = cs := by rw [List.drop_zero, List.take_of_length_le (by omega)]
    rw [e] at a3 a4
    exact ⟨.agg (as.flatMap AV.cells), ⟨⟨as, rfl, a1⟩, a2, a3, a4, by rw [hl, h1]; rfl, .inl ⟨_, rfl⟩⟩⟩
theorem rdA : ∀ (fs : List Ty) (off : Nat) {u : TypeId} {cs : List Value}, arrOk P fs u = true →
    (∀ (i : Nat), i < fs.length → ∃ (n : Nat) (x : DataW H × List MemPlace), DataW.trod enc P w 0 (fun _ => true) true n u ((cs.drop (off + i * P.cellsOf u)).take (P.cellsOf u)) = some x) →
    ∃ as, Ty.hasL fs as ∧ noLocs (as.flatMap AV.cells) = true ∧ VRL (base0 w) w.heap (as.flatMap AV.cells) ((cs.drop off).take (Ty.ns fs)) ∧ ∀ y ∈ (cs.drop off).take (Ty.ns fs), y.oneCell' = true
  | [], off, u, cs, hok, hr => by
    refine ⟨[], rfl, rfl, ?_, ?_⟩
    · rw [show Ty.ns [] = 0 from rfl, List.take_zero]; rfl
    · rw [show Ty.ns [] = 0 from rfl, List.take_zero]; simp
  | T :: r, off, u, cs, hok, hr => by
    simp only [arrOk, Bool.and_eq_true, beq_iff_eq] at hok
    obtain ⟨⟨h2, h3⟩, h4⟩ := hok
    obtain ⟨n, x, hx⟩ := hr 0 (by simp)
    rw [Nat.zero_mul, Nat.add_zero] at hx
    obtain ⟨a, ha⟩ := rd T h3 hx
    obtain ⟨as, b1, b2, b3, b4⟩ := rdA r (off + T.n) h4 (cs := cs) fun i hi => by
      obtain ⟨n, x, hx⟩ := hr (i + 1) (by simp; omega)
      refine ⟨n, x, ?_⟩
      rw [← h2, show off + P.cellsOf u + i * P.cellsOf u = off + (i + 1) * P.cellsOf u by rw [Nat.add_mul]; omega]
      exact hx
    have e : (cs.drop off).take (Ty.ns (T :: r)) = (cs.drop off).take T.n ++ (cs.drop (off + T.n)).take (Ty.ns r) := by
      rw [show Ty.ns (T :: r) = T.n + Ty.ns r from rfl, List.take_add, List.drop_drop]
    rw [h2] at ha
    refine ⟨a :: as, ⟨a, as, rfl, ha.has, b1⟩, ?_, ?_, ?_⟩
    · rw [List.flatMap_cons]; exact zMgE (zdBv ha.loc) b2
    · rw [e, List.flatMap_cons]; exact ha.vr.append b3
    · rw [e]
      intro y hy
      rcases List.mem_append.1 hy with hy | hy
      · exact ha.one y hy
      · exact b4 y hy
theorem rdL : ∀ (fs : List Ty) (off : Nat) {gs : List Field} {cs : List Value}, fieldsOk P fs gs off = true →
    (∀ (i : Nat) (f : Field), gs[i]? = some f → ∃ (n : Nat) (x : DataW H × List MemPlace), DataW.trod enc P w 0 (fun _ => true) true n f.type ((cs.drop f.offset).take (P.cellsOf f.type)) = some x) →
    ∃ as, Ty.hasL fs as ∧ noLocs (as.flatMap AV.cells) = true ∧ VRL (base0 w) w.heap (as.flatMap AV.cells) ((cs.drop off).take (Ty.ns fs)) ∧ ∀ y ∈ (cs.drop off).take (Ty.ns fs), y.oneCell' = true
  | [], off, gs, cs, hok, hr => by
    refine ⟨[], rfl, rfl, ?_, ?_⟩
    · rw [show Ty.ns [] = 0 from rfl, List.take_zero]; rfl
    · rw [show Ty.ns [] = 0 from rfl, List.take_zero]; simp
  | T :: r, off, gs, cs, hok, hr => by
    cases gs with
    | nil => simp [fieldsOk] at hok
    | cons f s =>
      simp only [fieldsOk, Bool.and_eq_true, beq_iff_eq] at hok
      obtain ⟨⟨⟨h1, h2⟩, h3⟩, h4⟩ := hok
      obtain ⟨n, x, hx⟩ := hr 0 f rfl
      obtain ⟨a, ha⟩ := rd T h3 hx
      obtain ⟨as, b1, b2, b3, b4⟩ := rdL r (off + T.n) h4 (cs := cs) fun i f' hi => hr (i + 1) f' (by simpa using hi)
      have e : (cs.drop off).take (Ty.ns (T :: r)) = (cs.drop off).take T.n ++ (cs.drop (off + T.n)).take (Ty.ns r) := by
        rw [show Ty.ns (T :: r) = T.n + Ty.ns r from rfl, List.take_add, List.drop_drop]
      rw [h1, h2] at ha
      refine ⟨a :: as, ⟨a, as, rfl, ha.has, b1⟩, ?_, ?_, ?_⟩
      · rw [List.flatMap_cons]; exact zMgE (zdBv ha.loc) b2
      · rw [e, List.flatMap_cons]; exact ha.vr.append b3
      · rw [e]
        intro y hy
        rcases List.mem_append.1 hy with hy | hy
        · exact ha.one y hy
        · exact b4 y hy
end
theorem zSkK {T : Ty} {r : Reach} {b0 : Nat} {t : TypeId} {v : Value} {d : DataW H} {ps : List MemPlace} (ht : tyOk P T t = true) (hval : Value.okWide P w r b0 t v) (h : DataW.Trod enc P w 0 (fun _ => true) true t v d ps) :
    ∃ a, T.has a ∧ noLoc a = true ∧ VR (base0 w) w.heap a v := by
  obtain ⟨n, hn⟩ := h
  obtain ⟨a, ha⟩ := rd T ht hn
  refine ⟨a, ha.has, ha.loc, ?_⟩
  by_cases hst : ∃ fs, T = .st fs
  · obtain ⟨fs, rfl⟩ := hst
    obtain ⟨xs, rfl, _⟩ := ha.has
    have hu : (∃ gs, P.underlying t = some (.struct gs)) ∨ ∃ k u, P.underlying t = some (.array k u) := by
      unfold tyOk at ht; split at ht
      · exact .inl ⟨_, ‹_›⟩
      · exact .inr ⟨_, _, ‹_›⟩
      · simp at ht
    have hag : ∃ cs, v = .agg cs := by
      rcases hu with ⟨gs, hu⟩ | ⟨k, u, hu⟩
      · simp only [Value.okWide, hu] at hval
        obtain ⟨cs, rfl, _⟩ := hval
        exact ⟨cs, rfl⟩
      · simp only [Value.okWide, hu] at hval
        obtain ⟨cs, rfl, _⟩ := hval
        exact ⟨cs, rfl⟩
    obtain ⟨cs, rfl⟩ := hag
    unfold VR
    exact ⟨cs.toList, by simp, ha.vr, ha.one⟩
  · have hone : v.oneCell' = true := by
      cases T with
      | int =>
        have hu : P.underlying t = some (.int .i64) := by
          unfold tyOk at ht; split at ht <;> simp_all
        obtain ⟨m, rfl⟩ := okWide_int hu hval; rfl
      | ik k =>
        have hu : ∃ K, P.underlying t = some (.int K) := by
          unfold tyOk at ht
          split at ht
          · exact ⟨_, ‹_›⟩
          · simp at ht
        obtain ⟨K, hu⟩ := hu
        obtain ⟨m, rfl⟩ := okWide_int hu hval; rfl
      | bool =>
        have hu : P.underlying t = some .bool := by
          unfold tyOk at ht; split at ht <;> simp_all
        obtain ⟨m, rfl⟩ := okWide_bool hu hval; rfl
      | str =>
        have hu : P.underlying t = some .string := by
          unfold tyOk at ht; split at ht <;> simp_all
        obtain ⟨m, rfl⟩ := okWide_string hu hval; rfl
      | sl e =>
        have hu : ∃ u, P.underlying t = some (.slice u) := by
          unfold tyOk at ht; split at ht
          · exact ⟨_, ‹_›⟩
          · simp at ht
        obtain ⟨u, hu⟩ := hu
        obtain ⟨q, l, c, rfl⟩ := okWide_slice hu hval; rfl
      | st fs => exact absurd ⟨fs, rfl⟩ hst
    have hv := ha.vr
    rw [zHSU hone] at hv
    rcases ha.alone with ⟨l, rfl⟩ | _
    · cases T with
      | st fs => exact absurd ⟨fs, rfl⟩ hst
      | _ => have := ha.has; simp [Ty.has] at this
    · have e : a.cells = [a] := by
        cases a with
        | agg l =>
          cases T with
          | st fs => exact absurd ⟨fs, rfl⟩ hst
          | _ => have := ha.has; simp [Ty.has] at this
        | _ => rfl
      rw [e] at hv
      obtain ⟨v', s, e1, e2, e3⟩ := hv
      simp at e1
      obtain ⟨rfl, rfl⟩ := e1
      exact e2
def tysOk (P : Program) : List Ty → List TypeId → Bool
  | [], [] => true
  | T :: r, t :: s => tyOk P T t && tysOk P r s
  | _, _ => false
theorem zWHb : ∀ (Ts : List Ty) {r : Reach} {b0 : Nat} {ts : List TypeId} {vs : List Value} {ds : List (DataW H)} {ps : List MemPlace}, tysOk P Ts ts = true →
    (∀ (j : Nat) t v, ts[j]? = some t → vs[j]? = some v → Value.okWide P w r b0 t v) → DataW.TrodAll enc P w 0 (fun _ => true) true ts vs ds ps → ∃ as, Ty.hasL Ts as ∧ noLocs as = true ∧ VRL (base0 w) w.heap as vs
  | [], _, _, ts, vs, ds, ps, ht, hval, h => by
    cases ts with
    | cons a b => simp [tysOk] at ht
    | nil =>
      obtain ⟨rfl, rfl, rfl⟩ := trodAll_nil h
      exact ⟨[], rfl, rfl, rfl⟩
  | T :: Ts, _, _, ts, vs, ds, ps, ht, hval, h => by
    cases ts with
    | nil => simp [tysOk] at ht
    | cons t ts =>
      simp only [tysOk, Bool.and_eq_true] at ht
      obtain ⟨v, vs', d, ds', p, q, rfl, rfl, rfl, h1, h2⟩ := trodAll_cons h
      obtain ⟨a, a1, a2, a3⟩ := zSkK ht.1 (hval 0 t v rfl rfl) h1
      obtain ⟨as, b1, b2, b3⟩ := zWHb Ts ht.2 (fun j t' v' hj hv => hval (j + 1) t' v' (by simpa using hj) (by simpa using hv)) h2
      exact ⟨a :: as, ⟨a, as, rfl, a1, b1⟩, by simp [noLocs, a2, b2], v, vs', rfl, a3, b3⟩
end
def LawSpec (s : ChangeSpec) (k : Nat) : Prop := s.vars = [] ∧ ∀ (H : Type) (ds : List (DataW H)), ds.length = k → s.fn H ds = { results := [.lit (.bool true)], args := ds }
theorem zkvq {H : Type} {enc : TypeId × Value → H} {w : World} {b : Nat} {sp : Nat → Bool} {hd : Bool} : ∀ {ts : List TypeId} {vs : List Value} {ds : List (DataW H)} {ps : List MemPlace}, DataW.TrodAll enc P w b sp hd ts vs ds ps → ds.length = ts.length
  | [], vs, ds, ps, h => by obtain ⟨rfl, rfl, rfl⟩ := trodAll_nil h; rfl
  | t :: ts, vs, ds, ps, h => by
    obtain ⟨v, vs', d, ds', p, q, rfl, rfl, rfl, h1, h2⟩ := trodAll_cons h
    simp [zkvq h2]
theorem zDPe {H : Type} {enc : TypeId × Value → H} {W W' : World} (hl : laidOutB P = true) (hb : Below W.heap.size W W') : ∀ {ts : List TypeId} {vs : List Value} {ds : List (DataW H)} {ps : List MemPlace} {sp : Nat → Bool},
    (ts.all fun t => P.readableRec t && decide (t < P.types.size)) = true → (∀ p ∈ ps, p.block < W.heap.size) → (∀ p ∈ ps, sp p.block = true) → DataW.TrodAll enc P W 0 (fun _ => true) true ts vs ds ps → DataW.TrodAll enc P W' 0 sp true ts vs ds ps
  | [], vs, ds, ps, sp, _, _, _, h => by obtain ⟨rfl, rfl, rfl⟩ := trodAll_nil h; rfl
  | t :: ts, vs, ds, ps, sp, ht, hlt, hs, h => by
    obtain ⟨v, vs', d, ds', p, q, rfl, rfl, rfl, h1, h2⟩ := trodAll_cons h
    simp only [List.all_cons, Bool.and_eq_true, decide_eq_true_eq] at ht
    refine trodAll_cons_mk (WideElems.Trod_stays hl ht.1.1 ht.1.2 h1 (fun x hx => hb.same (hlt x (by simp [hx]))) fun x hx => hs x (by simp [hx])) ?_
    exact zDPe hl hb (by simpa using ht.2) (fun x hx => hlt x (by simp [hx])) (fun x hx => hs x (by simp [hx])) h2
theorem good0 (w : World) : Good (base0 w) w :=
  ⟨fun k h => h, fun b u B id h => by simp [base0, ctxOf, blk] at h, fun b u B id h => by simp [base0, ctxOf, blk] at h, fun b u B id b' u' B' id' h => by simp [base0, ctxOf, blk] at h, fun b u B id es h => by simp [base0, ctxOf, blk] at h⟩
theorem law_contract {H : Type} {enc : TypeId × Value → H} {ce : CE} (hce : CallOk P ce) {f : FuncId} {fn : Func} {s : ChangeSpec} {apart fresh handsOn again : Bool} {Ts : List Ty} {tb : TypeId}
    (hs : LawSpec s fn.params.size) (hl : laidOutB P = true) (hts : tysOk P Ts fn.params.toList = true) (hrr : (fn.params.toList.all fun t => P.readableRec t && decide (t < P.types.size)) = true)
    (hres : fn.resultTypes = #[tb]) (htb : P.underlying tb = some .bool)
    {W : World} {b0 : Nat} {args : Array Value} {ds gs : List (DataW H)} {before : List MemPlace}
    (hval : ∀ (j : Nat) t v, fn.params[j]? = some t → args[j]? = some v → Value.okWide P W .any b0 t v)
    (hW : DataW.Whole enc P fn.params.toList s.vars apart W args.toList ds gs before)
    (law : ∀ as, Ty.hasL Ts as → noLocs as = true → ∃ σ', ce f as [] = some (.bool true, σ')) :
    Calls P f args W fun e W' => ∃ v, e = .returned v ∧ s.post enc P fn apart fresh handsOn again W args v W' := by
  obtain ⟨hv0, hfn⟩ := hs
  have hW0 := hW
  obtain ⟨p, q, hA, hV, rfl, hfz, hnd⟩ := hW
  rw [hv0] at hV
  obtain ⟨rfl, rfl⟩ := trodVars_none hV
  have hlt : ∀ x ∈ p, x.block < W.heap.size := fun x hx => hW0.lt x (by simp [hx])
  obtain ⟨as, a1, a2, a3⟩ := zWHb Ts hts (fun j t v hj hv => hval j t v (by simpa using hj) (by simpa using hv)) hA
  obtain ⟨σ', hlaw⟩ := law as a1 a2
  have hc := hce f as [] (.bool true) σ' hlaw (fun _ => 0) (fun k => k < W.heap.size) W args.toList (good0 W) a3
  simp only [Array.toArray_toList] at hc
  refine hc.mono fun e W' ⟨v, ids', I', he, hg', hv, hst⟩ => ⟨v, he, ?_⟩
  have hv : v = .bool true := hv
  subst hv
  have hb : Below W.heap.size W W' := ⟨hst.os, hst.tape.1, hst.output, hst.size, fun k hk => hst.frame k hk (fun ⟨b, u, B, h, _⟩ => by simp [ctxOf, blk] at h)⟩
  have hspec : s.fn H (ds ++ []) = { results := [.lit (.bool true)], args := ds } := by
    rw [List.append_nil]; exact hfn H ds (by rw [zkvq hA]; simp)
  have hr : ∀ (b : Nat) (sp : Nat → Bool) (hd : Bool), DataW.TrodAll enc P W' b sp hd fn.resultTypes.toList ((Value.bool true).resultList fn.resultTypes.size) [.lit (.bool true)] [] := fun b sp hd => by
    rw [hres]; exact trodAll_cons_mk (shut_bool htb true) trodAll_mk0
  refine ⟨ds, [], p ++ [], [], p, [], hW0, by rw [hspec]; exact hr _ _ _, by rw [hspec]; exact zDPe hl hb hrr hlt (fun x hx => by simpa using hlt x hx) hA, by rw [hspec, hv0]; rfl, World.keptBut_mono (fun x hx => ⟨hx, .inr (.inl (by simpa using hx))⟩) (hb.frame (· ∈ p ++ [])), fun _ => ?_⟩
  refine ⟨ok_one hres rfl (okWide_bool_mk htb _), _, [], ([] ++ p) ++ [], ⟨[] ++ p, [], trodAll_append (zDPe hl hb hrr hlt (fun _ _ => rfl) hA) (hr _ _ _), by rw [hv0]; rfl, rfl, ?_, ?_⟩, ?_⟩
  · intro b off hp
    have hin : MemPlace.cell b off ∈ p := by simpa using hp
    rw [hb.frozen (hlt _ hin)]
    exact hfz b off (by simpa using hin)
  · intro ha
    have := hnd ha
    simpa using this
  · intro x hx _
    simpa using hx
end Ab
