/- Sorted words, by the document: a list in one block. The greatest words, by the document. Condition: none. -/
import Derived.Test.YtkedjdfangojmaaR02
import Derived.Test.YtkedjdfangojmaaRGrp
set_option linter.all false
set_option maxRecDepth 100000
set_option maxHeartbeats 4000000
namespace Ab
theorem RW.seen {r : List Blk} {X : Nat} {c : AV} {w : List Int} (h : RW r X c w) (B : Blk) {k : Nat} : view (B :: r) false (k + 2) c = some (iL w) := by
  rcases h with ⟨rfl, rfl⟩ | ⟨h0, b, _, rfl, h1⟩
  · rfl
  · exact view_sm (k := k + 1) (f := .int) (g := .int) (st := .live) (xs := w) h1 (by simp) rfl fun _ _ => rfl
theorem F2.get {α β : Type} {R : α → β → Prop} {as : List α} {bs : List β} (k : F2 R as bs) : ∀ {i : Nat} {a : α} {b : β}, as[i]? = some a → bs[i]? = some b → R a b := by
  induction k with
  | nil => intro i a b h; simp at h
  | cons h1 _ ih =>
    intro i a b h h'
    cases i with
    | zero => simp at h h'; subst h h'; exact h1
    | succ i => exact ih (by simpa using h) (by simpa using h')
theorem F2.take {α β : Type} {R : α → β → Prop} {as : List α} {bs : List β} (k : F2 R as bs) : ∀ (n : Nat), F2 R (as.take n) (bs.take n) := by
  induction k with
  | nil => intro n; simp; exact .nil
  | cons h1 _ ih =>
    intro n
    cases n with
    | zero => exact .nil
    | succ n => exact .cons h1 (ih n)
theorem F2.drop {α β : Type} {R : α → β → Prop} {as : List α} {bs : List β} (k : F2 R as bs) : ∀ (n : Nat), F2 R (as.drop n) (bs.drop n) := by
  induction k with
  | nil => intro n; simp; exact .nil
  | cons h1 h2 ih =>
    intro n
    cases n with
    | zero => exact .cons h1 h2
    | succ n => exact ih n
theorem F2.app {α β : Type} {R : α → β → Prop} {as cs : List α} {bs ds : List β} (k : F2 R as bs) (h : F2 R cs ds) : F2 R (as ++ cs) (bs ++ ds) := by
  induction k with
  | nil => exact h
  | cons h1 _ ih => exact .cons h1 ih
/-- A sorted list in block 0. -/
def SL (r : List Blk) (cells : List AV) (l : List (List Int)) : Prop := F2 (RW r r.length) cells l
theorem SL.seen {r : List Blk} {cells : List AV} {l : List (List Int)} (h : SL r cells l) : view (⟨none, cells, .live⟩ :: r) false vd (.sl 0 cells.length 0 cells.length) = some (iLL l) := by
  refine view_F2 (k := 11) (st := .live) rfl (by simp) rfl ?_
  exact h.map.imp fun c y ⟨w, k1, k2⟩ => by subst k2; exact k1.seen _
theorem set_mid {a b : List AV} {x y : AV} : (a ++ x :: b).set a.length y = a ++ y :: b := by simp
theorem elm_mid {C : List AV} {x : AV} {j : Nat} (h : j < C.length) : elm (C.take (j + 1) ++ x :: C.drop (j + 1)) j = some C[j] := by
  rw [elm_eq, List.getElem?_append_left (by simp; omega), List.getElem?_take_of_lt (by omega), List.getElem?_eq_getElem h]
theorem SL.more {r l2 : List Blk} {cells : List AV} {l : List (List Int)} (h : SL r cells l) : SL (r ++ l2) cells l := F2.imp (fun a b k => k.mono (fun b B _ => rg_app) (.inr (by simp))) h
theorem ins_mem {l : List (List Int)} {w : List Int} {k : Nat} (x : List Int) : x ∈ l.take k ++ w :: l.drop k ↔ x ∈ l ∨ x = w := by
  have h := List.take_append_drop k l
  conv => rhs; rw [← h]
  simp only [List.mem_append, List.mem_cons]
  constructor
  · rintro (h | h | h)
    · exact .inl (.inl h)
    · exact .inr h
    · exact .inl (.inr h)
  · rintro ((h | h) | h)
    · exact .inl h
    · exact .inr (.inr h)
    · exact .inr (.inl h)
theorem L_bool {f : Nat} {args : List AV} {b : Bool} (h : PC f args = some (.bool b)) : ∃ τ, L f args [] = some (.bool b, τ) := by
  simp only [PC, PCx] at h
  split at h
  · rename_i v τ h1
    rw [view_true h] at h1
    exact ⟨τ, h1⟩
  · simp at h
/-- The word is put into its place. -/
theorem with_x (r : List Blk) (C : List AV) (l : List (List Int)) (hS : SL r C l) (h : asc l) (w : List Int) (hl : (l.length : Int) ≤ 1000000) (hw : fitW l) (hww : (w.length : Int) ≤ 1000000) : LX L F_ref02_with [.sl 0 C.length 0 C.length, iL w] (⟨none, C, .live⟩ :: r) (fun v σ' => ∃ r' C' l', v = .sl 0 C'.length 0 C'.length ∧ σ' = ⟨none, C', .live⟩ :: r' ∧ SL r' C' l' ∧ asc l' ∧ (∀ x, x ∈ l' ↔ x ∈ l ∨ x = w) ∧ l'.length ≤ l.length + 1) := by
  refine go_ref02_with rfl ?_
  obtain ⟨v, σ', hp, k, rfl, hk⟩ := LX_s (place_l l h w hl hw hww)
  have hv := hS.seen
  have hlen := hS.len
  have hk0 := hk.1
  have hr01 : ∀ a b : List Int, (a.length : Int) ≤ 1000000 → (b.length : Int) ≤ 1000000 → ∃ τ, L F_ref01_Same [iL a, iL b] [] = some (.bool (decide (a = b)), τ) := fun a b h1 h2 => L_bool (rsame_s a b (by omega) (by omega))
  by_cases hkc : k < C.length
  · have hkl : k < l.length := by omega
    obtain ⟨c, hc⟩ : ∃ c, C[k]? = some c := ⟨_, List.getElem?_eq_getElem hkc⟩
    have hcw := hS.get hc (List.getElem?_eq_getElem hkl)
    rw [← ix_nat hkl] at hcw
    have hcv : view (⟨none, C, .live⟩ :: r) false vd c = some (iL (ix l (k : Int))) := hcw.seen ⟨none, C, .live⟩ (k := 10)
    have hce : elm C k = some c := by rw [elm_eq]; exact hc
    obtain ⟨τ, hsm⟩ := hr01 (ix l (k : Int)) w (by have := hw _ (ix_get hkl); omega) hww
    by_cases hs : ix l (k : Int) = w
    · rw [decide_eq_true hs] at hsm
      simp [hv, hp, hkc, hce, hcv, hsm]
      exact ⟨r, C, rfl, ⟨rfl, rfl⟩, l, hS, h, fun x => ⟨.inl, fun h => h.elim id fun e => by rw [e, ← hs]; exact ix_get hkl⟩, by omega⟩
    · have hne : ¬ (k < l.length ∧ ix l (k : Int) = w) := fun h => hs h.2
      rw [decide_eq_false hs] at hsm
      simp [-More_nor, hv, hp, hkc, hce, hcv, hsm]
      refine ⟨by omega, by omega, ?_⟩
      refine W_iter (fun p : Nat × AV => [(3, .int p.1)]) (fun p => ⟨none, C.take p.1 ++ p.2 :: C.drop p.1, .live⟩ :: r) (fun p => k ≤ p.1 ∧ p.1 ≤ C.length) (fun p => p.1) (C.length, .snil) (by simp [sets]) ⟨by dsimp only; omega, by dsimp only; omega⟩ ?_
      rintro ⟨i, x⟩ ⟨i0, i1⟩
      dsimp only at i0 i1 ⊢
      have hti : (C.take i).length = i := by simp; omega
      by_cases hi : k < i
      · obtain ⟨j, rfl⟩ : ∃ j, i = j + 1 := ⟨i - 1, by omega⟩
        have hjC : j < C.length := by omega
        have he := elm_mid (C := C) (x := x) hjC
        have hset : (C.take (j + 1) ++ x :: C.drop (j + 1)).set (j + 1) C[j] = C.take j ++ C[j] :: C.drop j := by
          have h1 := set_mid (a := C.take (j + 1)) (b := C.drop (j + 1)) (x := x) (y := C[j])
          rw [hti] at h1
          have e1 : C.take (j + 1) = C.take j ++ [C[j]] := by rw [List.take_add_one, List.getElem?_eq_getElem hjC]; rfl
          have e2 : C.drop j = C[j] :: C.drop (j + 1) := List.drop_eq_getElem_cons hjC
          rw [h1, e1, e2, List.append_assoc]; rfl
        have hmin : min (j + 1) C.length = j + 1 := Nat.min_eq_left (by omega)
        have hsz : (C.take (j + 1) ++ x :: C.drop (j + 1)).length = C.length + 1 := by simp; omega
        have hcj : (C[j]).cells = [C[j]] ∧ notUnd C[j] = true := by
          have hjl : j < l.length := by omega
          have := hS.get (List.getElem?_eq_getElem hjC) (List.getElem?_eq_getElem hjl)
          rcases this with ⟨h1, _⟩ | ⟨_, b, _, h1, _⟩ <;> rw [h1] <;> exact ⟨rfl, rfl⟩
        have hii : (k : Int) < (j : Int) + 1 := by omega
        generalize C[j] = cj at *
        simp [-More_nor, -List.map_take, -pU_lit, ↓pU_sets, hii, he, hset, hmin, hcj.1, hcj.2]
        (repeat' apply And.intro) <;> try omega
        exact More_of (j, cj) (by simp) rfl ⟨by dsimp only; omega, by dsimp only; omega⟩ (by dsimp only; omega)
      · have ei : i = k := by omega
        subst ei
        have hset : ∀ y, (C.take i ++ x :: C.drop i).set i y = C.take i ++ y :: C.drop i := fun y => by
          have h1 := set_mid (a := C.take i) (b := C.drop i) (x := x) (y := y)
          rwa [hti] at h1
        have hsz : (C.take i ++ x :: C.drop i).length = C.length + 1 := by simp; omega
        by_cases hwz : w = []
        · have hwz' : (w = []) = True := eq_true hwz
          simp [-More_nor, -pU_lit, ↓pU_sets, hi, hset, hwz']
          refine ⟨by omega, by omega, by omega, _, _, by simp; omega, ⟨rfl, rfl⟩, l.take i ++ w :: l.drop i, (hS.take i).app (.cons (.inl ⟨rfl, hwz⟩) (hS.drop i)), ins_asc h hk hne, fun x => ?_, by simp; omega⟩
          exact ins_mem x
        · simp [-More_nor, -pU_lit, ↓pU_sets, hi, hset, hwz]
          have hS' := hS.more (l2 := [⟨none, w.map .int, .live⟩])
          refine ⟨by omega, by omega, by omega, by omega, _, _, by simp; omega, ⟨rfl, rfl⟩, l.take i ++ w :: l.drop i, (F2.take hS' i).app (.cons (.inr ⟨hwz, r.length, by simp, rfl, rg_blk_new⟩) (F2.drop hS' i)), ins_asc h hk hne, ins_mem, by simp; omega⟩
  · have hne : ¬ (k < l.length ∧ ix l (k : Int) = w) := fun h => hkc (by omega)
    simp [-More_nor, hv, hp, hkc]
    refine ⟨by omega, by omega, ?_⟩
    refine W_iter (fun p : Nat × AV => [(3, .int p.1)]) (fun p => ⟨none, C.take p.1 ++ p.2 :: C.drop p.1, .live⟩ :: r) (fun p => k ≤ p.1 ∧ p.1 ≤ C.length) (fun p => p.1) (C.length, .snil) (by simp [sets]) ⟨by dsimp only; omega, by dsimp only; omega⟩ ?_
    rintro ⟨i, x⟩ ⟨i0, i1⟩
    dsimp only at i0 i1 ⊢
    have hti : (C.take i).length = i := by simp; omega
    by_cases hi : k < i
    · obtain ⟨j, rfl⟩ : ∃ j, i = j + 1 := ⟨i - 1, by omega⟩
      have hjC : j < C.length := by omega
      have he := elm_mid (C := C) (x := x) hjC
      have hset : (C.take (j + 1) ++ x :: C.drop (j + 1)).set (j + 1) C[j] = C.take j ++ C[j] :: C.drop j := by
        have h1 := set_mid (a := C.take (j + 1)) (b := C.drop (j + 1)) (x := x) (y := C[j])
        rw [hti] at h1
        have e1 : C.take (j + 1) = C.take j ++ [C[j]] := by rw [List.take_add_one, List.getElem?_eq_getElem hjC]; rfl
        have e2 : C.drop j = C[j] :: C.drop (j + 1) := List.drop_eq_getElem_cons hjC
        rw [h1, e1, e2, List.append_assoc]; rfl
      have hmin : min (j + 1) C.length = j + 1 := Nat.min_eq_left (by omega)
      have hsz : (C.take (j + 1) ++ x :: C.drop (j + 1)).length = C.length + 1 := by simp; omega
      have hcj : (C[j]).cells = [C[j]] ∧ notUnd C[j] = true := by
        have hjl : j < l.length := by omega
        have := hS.get (List.getElem?_eq_getElem hjC) (List.getElem?_eq_getElem hjl)
        rcases this with ⟨h1, _⟩ | ⟨_, b, _, h1, _⟩ <;> rw [h1] <;> exact ⟨rfl, rfl⟩
      have hii : (k : Int) < (j : Int) + 1 := by omega
      generalize C[j] = cj at *
      simp [-More_nor, -List.map_take, -pU_lit, ↓pU_sets, hii, he, hset, hmin, hcj.1, hcj.2]
      (repeat' apply And.intro) <;> try omega
    · have ei : i = k := by omega
      subst ei
      have hset : ∀ y, (C.take i ++ x :: C.drop i).set i y = C.take i ++ y :: C.drop i := fun y => by
        have h1 := set_mid (a := C.take i) (b := C.drop i) (x := x) (y := y)
        rwa [hti] at h1
      have hsz : (C.take i ++ x :: C.drop i).length = C.length + 1 := by simp; omega
      by_cases hwz : w = []
      · have hwz' : (w = []) = True := eq_true hwz
        simp [-More_nor, -pU_lit, ↓pU_sets, hi, hset, hwz']
        refine ⟨by omega, by omega, by omega, _, _, by simp; omega, ⟨rfl, rfl⟩, l.take i ++ w :: l.drop i, (hS.take i).app (.cons (.inl ⟨rfl, hwz⟩) (hS.drop i)), ins_asc h hk hne, fun x => ?_, by simp; omega⟩
        exact ins_mem x
      · simp [-More_nor, -pU_lit, ↓pU_sets, hi, hset, hwz]
        have hS' := hS.more (l2 := [⟨none, w.map .int, .live⟩])
        refine ⟨by omega, by omega, by omega, by omega, _, _, by simp; omega, ⟨rfl, rfl⟩, l.take i ++ w :: l.drop i, (F2.take hS' i).app (.cons (.inr ⟨hwz, r.length, by simp, rfl, rg_blk_new⟩) (F2.drop hS' i)), ins_asc h hk hne, ins_mem, by simp; omega⟩
theorem with_0 (w : List Int) (hww : (w.length : Int) ≤ 1000000) : LX L F_ref02_with [.snil, iL w] [] (fun v σ' => ∃ r' C', v = .sl 0 C'.length 0 C'.length ∧ σ' = ⟨none, C', .live⟩ :: r' ∧ SL r' C' [w]) := by
  refine go_ref02_with rfl ?_
  obtain ⟨v, σ', hp, k, rfl, hk⟩ := LX_s (place_l [] (by simp [asc, ascG]) w (by simp) (fun x h => by simp at h) hww)
  have hk0 : k = 0 := by have := hk.1; simpa using this
  subst hk0
  have hp : L F_ref02_place [.imm false [], iL w] [] = some (.int 0, σ') := hp
  have hv : view [] false vd .snil = some (.imm false []) := rfl
  simp [-More_nor, hv, hp]
  refine W_iter (fun _ : Unit => []) (fun _ => [⟨none, [.snil], .live⟩]) (fun _ => True) (fun _ => 0) () (by simp [sets]) trivial ?_
  intro _ _
  by_cases hwz : w = []
  · have hwz' : (w = []) = True := eq_true hwz
    simp [hwz']
    exact ⟨[], _, rfl, ⟨rfl, rfl⟩, .cons (.inl ⟨rfl, hwz⟩) .nil⟩
  · simp [hwz]
    exact ⟨by omega, [⟨none, w.map .int, .live⟩], _, rfl, ⟨rfl, rfl⟩, .cons (.inr ⟨hwz, 0, by simp, rfl, rfl⟩) .nil⟩
theorem RSorted_s (ws : List (List Int)) (hl : (ws.length : Int) ≤ 1000000) (hw : fitW ws) : PC F_ref02_Sorted [iLL ws] = some (iLL (sortU ws)) := by
  refine PCx_of (go_ref02_Sorted rfl ?_)
  simp
  refine W_iter (fun p : Nat × List AV × List Blk × List (List Int) => [(1, .int p.1), (2, if p.1 = 0 then .snil else .sl 0 p.2.1.length 0 p.2.1.length)]) (fun p => if p.1 = 0 then [] else ⟨none, p.2.1, .live⟩ :: p.2.2.1) (fun p => p.1 ≤ ws.length ∧ SL p.2.2.1 p.2.1 p.2.2.2 ∧ asc p.2.2.2 ∧ (∀ x, x ∈ p.2.2.2 ↔ x ∈ ws.take p.1) ∧ p.2.2.2.length ≤ p.1) (fun p => ws.length - p.1) (0, [], [], []) (by simp [sets]) ⟨by simp, .nil, by simp [asc, ascG], by simp, by simp⟩ ?_
  rintro ⟨i, C, r, l⟩ ⟨i0, i1, i2, i3, i4⟩
  dsimp only at i0 i1 i2 i3 i4 ⊢
  by_cases hi : i < ws.length
  · have hwi := hw _ (ix_get (l := ws) (i := i) hi)
    have t1 : ws.take (i + 1) = ws.take i ++ [ix ws (i : Int)] := by
      rw [List.take_add_one, List.getElem?_eq_getElem hi, ix_nat hi]; rfl
    by_cases h0 : i = 0
    · subst h0
      obtain ⟨v, σ', hx, r', C', rfl, rfl, hS⟩ := LX_s (with_0 (ix ws ((0 : Nat) : Int)) hwi)
      have hx' : L F_ref02_with [.snil, .imm false ((ix ws 0).map .int)] [] = some (.sl 0 C'.length 0 C'.length, ⟨none, C', .live⟩ :: r') := hx
      simp [-More_nor, hi, hx']
      exact More_of (1, C', r', [ix ws 0]) (by simp) (by simp) ⟨by dsimp only; omega, hS, by simp [asc, ascG], fun x => by rw [show (1 : Nat) = 0 + 1 by rfl, t1]; simp, by simp⟩ (by dsimp only; omega)
    · have hfw : fitW l := fun x hx => hw x (List.mem_of_mem_take ((i3 x).1 hx))
      obtain ⟨v, σ', hx, r', C', l', rfl, rfl, hS, ha, hm, hlen⟩ := LX_s (with_x r C l i1 i2 (ix ws (i : Int)) (by omega) hfw hwi)
      simp [-More_nor, hi, h0, hx]
      refine ⟨by omega, More_of (i + 1, C', r', l') (by simp) (by simp) ⟨by dsimp only; omega, hS, ha, fun x => ?_, by dsimp only; omega⟩ (by dsimp only; omega)⟩
      rw [hm, i3, t1]; simp
  · have ei : i = ws.length := by omega
    subst ei
    have t2 : ws.take ws.length = ws := List.take_of_length_le (by simp)
    rw [t2] at i3
    have e : sortU ws = l := sortU_eq i2 fun x => (i3 x).symm
    have hv := i1.seen
    by_cases h0 : ws.length = 0
    · have : l = [] := by
        cases l with
        | nil => rfl
        | cons a r => have := (i3 a).1 (by simp); rw [List.length_eq_zero_iff.1 h0] at this; simp at this
      subst this
      simp [h0, e]
    · simp [h0, hv, e]
end Ab
namespace Ab
/-- What the inner loop asks of a later word. -/
def offW (a v : List Int) : Prop := v.length = a.length ∨ ¬ a <+: v
theorem top_later {ws all : List (List Int)} (ha : asc all) (hm : ∀ w, w ∈ all ↔ w ∈ ws) {i : Nat} (hi : i < all.length) : (∀ j : Nat, i < j → j < all.length → offW (ix all (i : Int)) (ix all (j : Int))) ↔ topW ws (ix all (i : Int)) = true := by
  rw [topW_iff]
  constructor
  · intro h v hv hne hp
    obtain ⟨j, hj, e⟩ := List.mem_iff_getElem.1 ((hm v).2 hv)
    rw [← ix_nat hj] at e
    rcases Nat.lt_trichotomy i j with h1 | h1 | h1
    · rcases h j h1 hj with h2 | h2
      · rw [e] at h2
        exact hne (hp.eq_of_length h2.symm)
      · rw [e] at h2; exact h2 hp
    · subst h1; exact hne e
    · have h2 := asc_ix ha h1 hi
      rw [e] at h2
      have h3 := hp.length_le
      unfold slxC at h2
      split at h2
      · omega
      · split at h2
        · omega
        · exact hne (hp.eq_of_length (by omega))
  · intro h j h1 h2
    have h3 := asc_ix ha h1 h2
    by_cases he : ix all (i : Int) = ix all (j : Int)
    · left; rw [he]
    · right; exact h _ ((hm _).1 (ix_get h2)) he
theorem RMaximal_s (ws : List (List Int)) (hl : (ws.length : Int) ≤ 1000000) (hw : fitW ws) : PC F_ref02_Maximal [iLL ws] = some (iLL (maxW ws)) := by
  refine PCx_of (go_ref02_Maximal rfl ?_)
  have hs := RSorted_s ws hl hw
  have ha : asc (sortU ws) := sortUG_asc slxC_ok ws
  have hm : ∀ w, w ∈ sortU ws ↔ w ∈ ws := fun w => sortU_mem
  have hlen : (sortU ws).length ≤ ws.length := by
    have := compW_len (sortG slxC ws)
    rwa [sortG_len] at this
  have hmax : maxW ws = (sortU ws).filter (topW ws) := rfl
  rw [hmax]
  generalize sortU ws = all at *
  have hwa : ∀ {j : Nat}, j < all.length → ((ix all (j : Int)).length : Int) ≤ 1000000 := fun {j} h => hw _ ((hm _).1 (ix_get h))
  simp [hs]
  refine W_iter (fun i : Nat => [(1, .int i), (5, .sl 0 ((all.take i).filter (topW ws)).length 0 ((all.take i).filter (topW ws)).length)]) (fun i => [loutL ((all.take i).filter (topW ws))]) (fun i => i ≤ all.length) (fun i => all.length - i) 0 (by simp [sets]) (by omega) ?_
  intro i i0
  by_cases hi : i < all.length
  · have t1 : all.take (i + 1) = all.take i ++ [ix all (i : Int)] := by
      rw [List.take_add_one, List.getElem?_eq_getElem hi, ix_nat hi]; rfl
    have hF1 : (all.take (i + 1)).filter (topW ws) = (all.take i).filter (topW ws) ++ (if topW ws (ix all (i : Int)) = true then [ix all (i : Int)] else []) := by
      rw [t1, List.filter_append]; simp [List.filter_cons]
    have hF2 : ((all.take i).filter (topW ws)).length ≤ i := by
      have := List.length_filter_le (topW ws) (all.take i)
      simp at this; omega
    have htl := top_later ha hm hi
    have hwi := hwa hi
    generalize (all.take i).filter (topW ws) = F at *
    simp [-More_nor, hi]
    refine ⟨by omega, ?_⟩
    refine W_iter (fun p : Nat × Bool => [(3, .int p.1), (4, .bool p.2)]) (fun _ => [loutL F]) (fun p => i + 1 ≤ p.1 ∧ p.1 ≤ all.length ∧ (p.2 = true ↔ ∀ j : Nat, i < j → j < p.1 → offW (ix all (i : Int)) (ix all (j : Int)))) (fun p => all.length - p.1) (i + 1, true) (by simp [sets]) ⟨by dsimp only; omega, by dsimp only; omega, by simp; intro j h1 h2; omega⟩ ?_
    rintro ⟨k, b⟩ ⟨k0, k1, k2⟩
    dsimp only at k0 k1 k2 ⊢
    by_cases hk : k < all.length
    · have hwk := hwa hk
      have hp := rhasPre_s (ix all (k : Int)) (ix all (i : Int)) (by omega) (by omega)
      have step : ∀ b' : Bool, (b' = true ↔ b = true ∧ offW (ix all (i : Int)) (ix all (k : Int))) → (b' = true ↔ ∀ j : Nat, i < j → j < k + 1 → offW (ix all (i : Int)) (ix all (j : Int))) := fun b' h => by
        rw [h, k2]
        constructor
        · rintro ⟨h1, h2⟩ j h3 h4
          by_cases e : j = k
          · subst e; exact h2
          · exact h1 j h3 (by omega)
        · intro h1; exact ⟨fun j h3 h4 => h1 j h3 (by omega), h1 k (by omega) (by omega)⟩
      cases b with
      | false =>
        simp [-More_nor, hk]
        (repeat' apply And.intro) <;> try omega
        exact More_of (k + 1, false) (by simp) rfl ⟨by dsimp only; omega, by dsimp only; omega, step false (by simp)⟩ (by dsimp only; omega)
      | true =>
        by_cases hlk : ((ix all (k : Int)).length : Int) = (ix all (i : Int)).length
        · simp [-More_nor, hk, hi, hlk]
          (repeat' apply And.intro) <;> try omega
          exact More_of (k + 1, true) (by simp) rfl ⟨by dsimp only; omega, by dsimp only; omega, step true (by simp; exact .inl (by omega))⟩ (by dsimp only; omega)
        · by_cases hpp : ix all (i : Int) <+: ix all (k : Int)
          · rw [decide_eq_true hpp] at hp
            simp [-More_nor, hk, hi, hlk, hp]
            (repeat' apply And.intro) <;> try omega
            exact More_of (k + 1, false) (by simp) rfl ⟨by dsimp only; omega, by dsimp only; omega, step false (by simp [offW, hpp]; omega)⟩ (by dsimp only; omega)
          · rw [decide_eq_false hpp] at hp
            simp [-More_nor, hk, hi, hlk, hp]
            (repeat' apply And.intro) <;> try omega
            exact More_of (k + 1, true) (by simp) rfl ⟨by dsimp only; omega, by dsimp only; omega, step true (by simp [offW, hpp])⟩ (by dsimp only; omega)
    · have ek : k = all.length := by omega
      subst ek
      have hb := k2.trans htl
      cases b with
      | false =>
        have : ¬ topW ws (ix all (i : Int)) = true := fun h => by have := hb.2 h; simp at this
        rw [if_neg this, List.append_nil] at hF1
        simp [-More_nor, hk]
        exact ⟨by omega, More_of (i + 1) (by simp [hF1]) (by simp [hF1]) (by omega) (by omega)⟩
      | true =>
        rw [if_pos (hb.1 rfl)] at hF1
        simp [-More_nor, hk, hi]
        exact ⟨by split <;> simp, by omega, by omega, More_of (i + 1) (by simp [hF1]) (by simp [hF1]) (by omega) (by omega)⟩
  · have ei : i = all.length := by omega
    subst ei
    rw [List.take_length]
    have hv := vd_loutL (σ := [loutL (all.filter (topW ws))]) (b := 0) rfl
    simp [hv]
end Ab
