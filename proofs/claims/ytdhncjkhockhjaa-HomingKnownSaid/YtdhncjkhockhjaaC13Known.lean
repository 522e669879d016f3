/- The law on words that resolve. The law on what is known after a homing word. Condition: none. -/
import Derived.Test.YtdhncjkhockhjaaHomX
set_option linter.all false
set_option maxRecDepth 100000
set_option maxHeartbeats 1000000
namespace Ab
/-- All states so far are known. -/
def Mly.hkn (m : Mly) (w : List Int) (n : Nat) : Bool := (List.range n).all fun (s : Nat) => decide ((m.cur w (m.outs (s : Int) w)).length = 1)
theorem cur_one {m : Mly} (hm : m.Ok) {w : List Int} (hw : ∀ x ∈ w, 0 ≤ x ∧ x < m.inputs) {s : Nat} (hs : s < m.next.length) (h : (m.cur w (m.outs (s : Int) w)).length = 1) : m.cur w (m.outs (s : Int) w) = [m.run (s : Int) w] := by
  have hm' : m.run (s : Int) w ∈ m.cur w (m.outs (s : Int) w) := (cur_mem hm hw).2 ⟨s, hs, rfl, rfl⟩
  generalize m.cur w (m.outs (s : Int) w) = C at *
  match C, h with
  | [x], _ => simp at hm'; rw [hm']
theorem fin_at {m : Mly} (hm : m.Ok) {w : List Int} (hc : m.hchk w = 0) {s : Nat} (hs : s < m.next.length) : m.fin w (m.outs (s : Int) w) = if (m.cur w (m.outs (s : Int) w)).length = 1 then (m.run (s : Int) w, true, 0) else (0, false, 0) := by
  obtain ⟨_, hw⟩ := hchk_ok hc
  obtain ⟨_, hws⟩ := wordE_ok hw
  have e : m.pos w (m.outs (s : Int) w) = (m.cur w (m.outs (s : Int) w), 0) := by unfold Mly.pos; rw [if_neg (by simpa using hc), if_neg (by rw [outs_len]; simp)]
  unfold Mly.fin
  rw [e]
  by_cases h : (m.cur w (m.outs (s : Int) w)).length = 1
  · rw [if_neg (by simp [h]), if_pos h, cur_one hm hws hs h]; rfl
  · rw [if_pos (.inr h), if_neg h]
end Ab
namespace Ab
/-- A list of numbers is given away. -/
theorem W_frzI {vars : List AV} {fl : Option (Nat × AV)} {ws : List Int} {k : Nat} {Q : Ex → St → Prop} (hn : nth vars k = .sl 0 ws.length 0 ws.length) (h : Q .nor ⟨setN vars k (.imm true (ws.map .int)), fl, [⟨none, ws.map .int, .dead⟩]⟩) : W L (.frz k) ⟨vars, fl, [⟨none, ws.map .int, .live⟩]⟩ Q := by
  have hri : ∀ (ws : List Int) (acc : List Nat), (ws.map AV.int).foldl (fun acc y => reach [⟨none, ws.map .int, .live⟩] 11 y acc) acc = acc := fun ws acc => by
    have : ∀ (l : List Int) (σ : List Blk), (l.map AV.int).foldl (fun acc y => reach σ 11 y acc) acc = acc := fun l => by
      induction l with
      | nil => intro _; rfl
      | cons x l ih => intro σ; simp only [List.map_cons, List.foldl_cons]; exact ih σ
    exact this ws _
  have hr : reach [⟨none, ws.map .int, .live⟩] vd (.sl 0 ws.length 0 ws.length) [] = [0] := by
    show reach [⟨none, ws.map .int, .live⟩] (11 + 1) (.sl 0 ws.length 0 ws.length) [] = [0]
    unfold reach
    simp only [List.contains_nil, Bool.false_eq_true, if_false, blk]
    exact hri ws [0]
  have hv := vd_iL (σ := [⟨none, ws.map .int, .live⟩]) (fr := false) (b := 0) (xs := ws) (n := ws.length) (st := .live) rfl (by simp) rfl
  have hs : surely [⟨none, ws.map .int, .live⟩] (.sl 0 ws.length 0 ws.length) = true := by
    have : upto [⟨none, ws.map .int, .live⟩] 0 ws.length = some ⟨none, ws.map .int, .live⟩ := by
      unfold upto
      simp [blk]
    simp only [surely, this]
  refine ⟨0, .nor, _, ?_, h⟩
  simp only [exec, hn, hr]
  have hd : dieIf (fun b => !([0] : List Nat).contains b) 0 [⟨none, ws.map .int, .live⟩] = [⟨none, ws.map .int, .live⟩] := by simp [dieIf]
  rw [hd, hv]
  simp only [hs]
  simp [dieIf]
theorem HomingKnown_l (aw : PC F_law13_exampleHolds [] = some (.bool true)) (m : Mly) (h : m.fits) (q : Nat) (n : Int) (n0 : 0 ≤ n) (n1 : n ≤ 65535) (more : List Int) (hl : (more.length : Int) ≤ 9223372036854775807) : PC F_law13_HomingKnown [m.av, .ik q n, iL more] = some (.bool true) := by
  refine PCx_of (go_law13_HomingKnown rfl ?_)
  have hs := Small_s m h
  cases hsm : m.small with
  | false => rw [hsm] at hs; simp [hs, aw]
  | true =>
    rw [hsm] at hs
    obtain ⟨sm1, sm2⟩ := small_t hsm
    have hck := R11Check_s m h
    by_cases h0 : m.validE = 0
    case neg =>
      have e' : m.mchk m.mnlb = m.validE := by unfold Mly.mchk; rw [if_pos h0]
      rw [e'] at hck
      simp [hs, hck, h0, aw]
    have e' : m.mchk m.mnlb = if m.mnlb = true then 0 else 1 := by unfold Mly.mchk; rw [if_neg (by simpa using h0)]
    rw [e'] at hck
    cases hb : m.mnlb with
    | false => rw [hb] at hck; simp [hs, hck, aw]
    | true =>
      rw [hb, if_pos rfl] at hck
      by_cases h1 : 60 < (more.length : Int)
      · simp [hs, hck, h1, aw]
      have hM := (mnlb_t.1 hb).2
      have hm := hM.ok
      have hst := hm.states
      have hin := hm.inputs
      have hne : m.next ≠ [] := by intro e; rw [e] at hst; simp at hst
      have hW := Word_s m h fun _ => sm1
      have eW : hwA m = (m.hwd m.next.length [], 0) := by unfold hwA; rw [if_neg (by simpa using h0), if_pos hb]
      rw [eW] at hW
      have hwl0 := hwA_len (m := m) fun _ => sm1
      rw [eW] at hwl0
      obtain ⟨hom, hws, _⟩ := hwd_hom hM (f := m.next.length) (w := []) (by simp) (by omega)
      generalize m.hwd m.next.length [] = w at *
      dsimp only at hW hwl0
      have hwe : wordE w m.inputs = 0 := wordE_nul ⟨by omega, by omega⟩ (by omega) hws
      have hcw : m.hchk w = 0 := by unfold Mly.hchk; rw [if_neg (by simpa using h0)]; exact hwe
      have hop : m.hop w = [] := (hop_nil hm hws).2 hom
      have hRes := Resolves_s m h w (by omega)
      have hd : decide (m.hchk w = 0 ∧ m.hop w = []) = true := by simpa using ⟨hcw, hop⟩
      rw [hd, hcw] at hRes
      have hs0 : 0 ≤ n.tmod (m.next.length : Int) := by rw [Int.tmod_eq_emod_of_nonneg n0]; exact Int.emod_nonneg _ (by omega)
      have hs1 : n.tmod (m.next.length : Int) < (m.next.length : Int) := by rw [Int.tmod_eq_emod_of_nonneg n0]; exact Int.emod_lt_of_pos _ (by omega)
      generalize hS : n.tmod (m.next.length : Int) = s at *
      obtain ⟨s, rfl⟩ := Int.eq_ofNat_of_zero_le hs0
      have hF := From_s m h (s : Int) w (by omega)
      rw [From_e h0 ⟨hs0, hs1⟩, if_neg (by simpa using hwe)] at hF
      have hsn : s < m.next.length := by omega
      have hol : (m.outs (s : Int) w).length = w.length := outs_len
      have hN := Final_s m h w (m.outs (s : Int) w) (by omega) (by omega)
      have hcu := (cur_hom hm hws).1 hom s hsn
      rw [fin_at hm hcw hsn, if_pos (by rw [hcu]; rfl)] at hN
      have hF2 := From_s m h (s : Int) (w ++ more) (by simp; omega)
      rw [From_e h0 ⟨hs0, hs1⟩] at hF2
      have hN2 := fun o (ho : (o.length : Int) ≤ 9223372036854775807) => Final_s m h (w ++ more) o (by simp; omega) ho
      have hR2 := Resolves_s m h (w ++ more) (by simp; omega)
      have hom2 : m.hom (w ++ more) := hom_ext hom
      have hxl : ((w ++ more).length : Int) ≤ 1060 := by simp; omega
      have hol2 : (m.outs (s : Int) (w ++ more)).length = (w ++ more).length := outs_len
      have hend : ∀ V, w ++ more = V → (PC F_mealy_From [m.av, .int s, iL V] = some (fromA (m.outs (s : Int) V, m.run (s : Int) V, 0)) ∧ PC F_homing_Resolves [m.av, iL V] = some (.tup [.bool true, .int 0]) ∧ PC F_homing_Final [m.av, iL V, iL (m.outs (s : Int) V)] = some (.tup [.int (m.run (s : Int) V), .bool true, .int 0])) ∨ (∃ x, x ≠ 0 ∧ PC F_mealy_From [m.av, .int s, iL V] = some (fromA ([], 0, x))) := by
        rintro V rfl
        by_cases hwe2 : wordE (w ++ more) m.inputs = 0
        · left
          rw [if_neg (by simpa using hwe2)] at hF2
          have hws2 := (wordE_ok hwe2).2
          have hcw2 : m.hchk (w ++ more) = 0 := by unfold Mly.hchk; rw [if_neg (by simpa using h0)]; exact hwe2
          have hop2 : m.hop (w ++ more) = [] := (hop_nil hm hws2).2 hom2
          have hd2 : decide (m.hchk (w ++ more) = 0 ∧ m.hop (w ++ more) = []) = true := by simpa using ⟨hcw2, hop2⟩
          rw [hd2, hcw2] at hR2
          have hN3 := hN2 (m.outs (s : Int) (w ++ more)) (by omega)
          have hcu2 := (cur_hom hm hws2).1 hom2 s hsn
          rw [fin_at hm hcw2 hsn, if_pos (by rw [hcu2]; rfl)] at hN3
          exact ⟨hF2, hR2, hN3⟩
        · right
          rw [if_pos hwe2] at hF2
          exact ⟨_, hwe2, hF2⟩
      have hwl : (w.length : Int) ≤ 1000 := by omega
      have hV := hend (w ++ more) rfl
      generalize hVe : w ++ more = V at *
      have hVl : V.length = w.length + more.length := by rw [← hVe, List.length_append]
      have key : ∀ (A : List AV) (n : Nat), A = V.map .int → n = V.length → W L (IC.frz 15) ⟨[.und, .und, .und, (AV.agg [AV.int m.inputs, AV.int m.start, iLL m.next, iLL m.out]).pimm, .und, .int s, .und, .und, .und, .und, .und, .und, .und, .und, .und, .sl 0 n 0 n, .und], none, [⟨none, A, .live⟩]⟩ (Thn L ((IC.reg r_law13_HomingKnown_11).seq (((IC.reg r_law13_HomingKnown_12).seq (IC.cond 107 ((IC.reg r_law13_HomingKnown_13).seq IC.ret) IC.skip)).seq ((IC.reg r_law13_HomingKnown_14).seq ((IC.reg r_law13_HomingKnown_15).seq ((IC.reg r_law13_HomingKnown_16).seq IC.ret))))) (EndsK ir_law13_HomingKnown fun v σ' => optK (viewT σ' false v) fun x => x = AV.bool true)) := by
        rintro A n rfl rfl
        refine W_frzI rfl ?_
        clear hRes hF hN
        obtain ⟨a1, a2, a3⟩ | ⟨x, x0, a1⟩ := hV
        · simp only [fromA] at a1
          simp [a1, a2, a3, aw]
          trace_state
        · simp only [fromA] at a1
          have x0' := eq_false x0
          simp [a1, x0', aw]
          trace_state
      simp [hs, hck, h1, hW, hRes, hF, hN, hS, aw]
      refine ⟨by omega, hne, by omega, fun hw0 => ⟨by omega, fun hm0 => ?_, fun hm0 => ?_⟩, fun hw0 => ⟨by omega, fun hm0 => ?_, fun hm0 => ?_⟩⟩
      · exact key _ _ (by rw [← hVe, hw0, hm0]; rfl) (by rw [hVl, hw0, hm0]; rfl)
      · exact key _ _ (by rw [← hVe, hw0]; rfl) (by rw [hVl, hw0]; simp)
      · exact key _ _ (by rw [← hVe, hm0, List.append_nil]) (by rw [hVl, hm0]; rfl)
      · exact key _ _ (by rw [← hVe, List.map_append]) (by rw [hVl])
end Ab
