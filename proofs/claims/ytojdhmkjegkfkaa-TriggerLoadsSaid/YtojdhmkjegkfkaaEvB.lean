/- trigger's Take and List: what they answer; no condition. -/
import Derived.Test.YtojdhmkjegkfkaaEv
namespace Go.Proofs.Ytojdhmkjegkfkaa
open Go.Ab
/-- Take, as the document has it -/
def takeE (l : List Ev) (s : List UInt8) (p : Int) : Int × List Ev :=
  if wordB s = false then (63, l) else if p < 0 ∨ 2147483647 < p then (1, l) else if l.any (fun x => decide (x.id = s)) then (6, l)
  else (0, (if l.length = 8 then l.drop 1 else l) ++ [⟨s, p⟩])
/-- the events' own blocks -/
def ownE (b : Nat) (a : Value) (j : Nat) : Prop := j = b ∨ inRow a j
theorem evCells_len (l : List Ev) : (l.flatMap Ev.cells).length = l.length * 2 := by
  induction l with
  | nil => rfl
  | cons x l ih => simp [List.flatMap_cons, ih, Ev.cells]; omega
theorem evCells_one (l : List Ev) : (l.flatMap Ev.cells).all oneA = true := by
  rw [List.all_eq_true]
  intro x hx
  obtain ⟨y, _, hy⟩ := List.mem_flatMap.1 hx
  simp [Ev.cells, str] at hy
  rcases hy with rfl | rfl <;> rfl
theorem evCells_drop (l : List Ev) (n : Nat) : (l.flatMap Ev.cells).drop (n * 2) = (l.drop n).flatMap Ev.cells := by
  induction n generalizing l with
  | zero => simp
  | succ n ih =>
    cases l with
    | nil => simp
    | cons x l =>
      simp only [List.flatMap_cons, List.drop_succ_cons]
      rw [← ih l, show (n + 1) * 2 = (Ev.cells x).length + n * 2 by simp [Ev.cells]; omega, ← List.drop_drop, List.drop_left]
theorem evCells_take (l : List Ev) (n : Nat) : (l.flatMap Ev.cells).take (n * 2) = (l.take n).flatMap Ev.cells := by
  induction n generalizing l with
  | zero => simp
  | succ n ih =>
    cases l with
    | nil => simp
    | cons x l =>
      simp only [List.flatMap_cons, List.take_succ_cons]
      rw [← ih l, show (n + 1) * 2 = (Ev.cells x).length + n * 2 by simp [Ev.cells]; omega, List.take_append, List.take_of_length_le (by omega), Nat.add_sub_cancel_left]
theorem shiftEv {X Y ys : List Value} (hX : X.length = 14) (hY : Y.length = 2) : List.take (7 * 2) (X ++ Y) ++ ys ++ List.drop (7 * 2 + 2) (X ++ Y) = X ++ ys := by
  rw [List.take_left' (by omega), List.drop_of_length_le (by rw [List.length_append, hX, hY]; omega), List.append_nil]
theorem takeE_len (l : List Ev) (s : List UInt8) (p : Int) (h : l.length ≤ 8) : (takeE l s p).2.length ≤ 8 := by
  unfold takeE
  split
  · exact h
  · split
    · exact h
    · split
      · exact h
      · simp only [List.length_append, List.length_cons, List.length_nil]
        split
        · simp; omega
        · omega
set_option maxHeartbeats 1000000 in
set_option maxRecDepth 4000 in
theorem etake_ev {h : Hp} {k b : Nat} {a : Value} {l : List Ev} (s : List UInt8) (hs : s.length ≤ 140737488355320) (p : Int) (e : EV h k b a l) (hk : k ≤ h.length) :
    EvA Try.prog 31 [.pointer (some ⟨b, 0, none⟩), .string (bs s), .int .i64 p] (fun r h' => r = .int .i64 (takeE l s p).1 ∧ ∃ a', EV h' k b a' (takeE l s p).2 ∧ Upd (ownE b a) h h' ∧ (∀ j, inRow a' j → inRow a j ∨ h.length ≤ j)) h := by
  refine EvA.body Try.func31 rfl (by kernel_rfl) (by simp) ?_
  apply Run.ok
  simp
  refine after_call (word_ev s hs _) ?_
  rintro r h' ⟨rfl, rfl⟩
  have same : ∀ c, (takeE l s p) = (c, l) → ∃ a', EV h' k b a' (takeE l s p).2 ∧ Upd (ownE b a) h' h' ∧ (∀ j, inRow a' j → inRow a j ∨ h'.length ≤ j) := fun c hc => ⟨a, by rw [hc]; exact e, Upd.refl, fun j hj => .inl hj⟩
  cases hw : wordB s with
  | false =>
    have hc : takeE l s p = (63, l) := by simp [takeE, hw]
    simp
    exact ⟨by rw [hc], same _ hc⟩
  | true =>
    by_cases c1 : p < 0
    · have hc : takeE l s p = (1, l) := by simp [takeE, hw, c1]
      simp [c1]
      exact ⟨by rw [hc], same _ hc⟩
    · by_cases c2 : 2147483647 < p
      · have hc : takeE l s p = (1, l) := by simp [takeE, hw, c2]
        simp [c1, c2]
        exact ⟨by rw [hc], same _ hc⟩
      · simp [c1, c2]
        refine after_call (find_ev s e) ?_
        rintro r h2 ⟨rfl, rfl⟩
        cases hf : l.findIdx? (fun x => decide (x.id = s)) with
        | some i =>
          have hany : l.any (fun x => decide (x.id = s)) = true := by
            rw [List.findIdx?_eq_some_iff_getElem] at hf
            obtain ⟨hi, hp, _⟩ := hf
            exact List.any_eq_true.2 ⟨_, List.getElem_mem _, hp⟩
          have hc : takeE l s p = (6, l) := by simp only [takeE, hw, hany]; simp [c1, c2]
          simp
          exact ⟨by rw [hc], same _ hc⟩
        | none =>
          have hany : l.any (fun x => decide (x.id = s)) = false := by
            rw [List.findIdx?_eq_none_iff] at hf; simpa using hf
          have hc : takeE l s p = (0, (if l.length = 8 then l.drop 1 else l) ++ [⟨s, p⟩]) := by simp only [takeE, hw, hany]; simp [c1, c2]
          rw [hc]
          have hl := e.len
          have sm1 : Same h2 (h2 ++ [.cells [.string (bs s), .int .i64 p] false none]) := Same.new _
          have e1 := e.same sm1
          have l0 := load_at (P := Try.prog) (t := 44) (o := 0) e1.at_ (by simp)
          simp only [List.getElem?_cons_zero] at l0
          have hlen := e1.row.len (P := Try.prog) (t := 44) (e := 47) (by simp)
          have hbl : b < h2.length := hp_lt e.at_
          have hnew : (h2 ++ [Blk.cells [.string (bs s), .int .i64 p] false none])[h2.length]? = some (.cells [.string (bs s), .int .i64 p] false none) := by simp
          have lnew : ∀ g, Same (h2 ++ [Blk.cells [.string (bs s), .int .i64 p] false none]) g → loadA Try.prog 47 (.pointer (some ⟨h2.length, 0, none⟩)) g = some (.agg #[.string (bs s), .int .i64 p]) := fun g u => by
            simp only [loadA, u.at hnew]; simp
          by_cases h8 : l.length = 8
          · have h8' : ((l.length : Int) == 8) = true := by simp; omega
            rw [if_pos h8]
            obtain ⟨v2, q1, q2, q3⟩ := Sl.cut (P := Try.prog) (t := 44) (e := 47) (lo := some (.int .i64 1)) (hi := none) (l := 1) (m := l.length) e1.acc.sl (by simp) (by simp) (fun c hc => by rw [bnds_l, if_pos (by omega)]; simp) (by omega) (Nat.le_refl _)
            have hsrc : srcA 2 v2 (h2 ++ [.cells [.string (bs s), .int .i64 p] false none]) = some (l.length - 1, (l.drop 1).flatMap Ev.cells) := by
              have := q2.1.2.1
              rw [Nat.one_mul] at this
              rw [this, show List.drop 2 (l.flatMap Ev.cells) = (l.drop 1).flatMap Ev.cells from evCells_drop l 1, List.take_of_length_le (by rw [evCells_len]; simp)]
            obtain ⟨h3, e3, a3, u3, n3⟩ := e1.acc.copyIn (P := Try.prog) (t := 44) (e := 47) (x := v2) (by simp) (by simp) hsrc (by rw [evCells_len]; simp) (evCells_one _) (by omega) (by omega)
            rw [evCells_drop] at a3
            have hbne : b ≠ rbl a := fun h => e1.ne (rbl a) (Row.inRow (k := 0) e1.acc.row (by omega)) h.symm
            have hB3 := u3.at e1.at_ hbne
            have l03 := load_at (P := Try.prog) (t := 44) (o := 0) hB3 (by simp)
            simp only [List.getElem?_cons_zero] at l03
            have hlen3 := a3.row.len (P := Try.prog) (t := 44) (e := 47) (by simp)
            have ia3 := a3.row.ia (P := Try.prog) (t := 44) (e := 47) (k := 7) (by simp) (by simp) (by omega) .i64
            have hnr : h2.length ≠ rbl a := fun h => by
              have := (e.acc.above (rbl a) (Row.inRow (k := 0) e.acc.row (by omega))).2
              omega
            have hn3 := u3.at hnew hnr
            have ln3 : loadA Try.prog 47 (.pointer (some ⟨h2.length, 0, none⟩)) h3 = some (.agg #[.string (bs s), .int .i64 p]) := by
              simp only [loadA, hn3]; simp
            obtain ⟨h4, e4, a4, u4, n4⟩ := a3.storea (P := Try.prog) (e := 47) (ys := [.string (bs s), .int .i64 p]) (i := 7) (by simp) rfl rfl (by omega)
            have q1' := q1 _ Same.refl
            simp [l0, hlen, h8', -load_ptr]
            refine WpA.drawnA [0, 1, 2, 3, 4, 5, 6, 7, 8, 9] [[], [], [], [], [], [], [], [], [], [0, 1, 2, 3, 4, 5, 6, 7, 8]] (by kernel_rfl) (by decide +kernel) (by decide +kernel) ?_
            simp [l0, q1', e3, -load_ptr]
            refine WpA.drawnA [0, 1, 2, 3, 4, 5, 6, 7, 8, 9, 10, 11, 12] [[], [], [], [], [], [], [], [], [], [], [], [], [0, 1, 2, 3, 4, 5, 6, 7, 8, 9, 10, 11]] (by kernel_rfl) (by decide +kernel) (by decide +kernel) ?_
            have h7 : IntKind.i64.wrap ((l.length : Int) - 1) = 7 := by rw [h8]; rfl
            have hsz : (7 : Int) = ((7 : Nat) : Int) := rfl
            simp only [Nat.reduceMul] at ia3 e4
            have ia3' : indexAddrA Try.prog 44 a (.int .i64 7) = some (.pointer (some ⟨rbl a, rof a + 14, none⟩)) := ia3
            simp [l03, hlen3, h7, ia3', ln3, e4, -load_ptr, -store_ptr]
            have hfl : ((l.drop 1).flatMap Ev.cells).length = 14 := by rw [evCells_len]; simp; omega
            have hd1 : List.drop (l.length - 1) l = l.drop 7 := by rw [h8]
            have hfd : ((l.drop 7).flatMap Ev.cells).length = 2 := by rw [evCells_len]; simp; omega
            rw [hd1] at a4
            have hx4 : List.take (7 * 2) (List.flatMap Ev.cells (List.drop 1 l) ++ List.flatMap Ev.cells (List.drop 7 l)) ++ [Value.string (bs s), Value.int IntKind.i64 p] ++ List.drop (7 * 2 + 2) (List.flatMap Ev.cells (List.drop 1 l) ++ List.flatMap Ev.cells (List.drop 7 l)) = (l.drop 1 ++ [(⟨s, p⟩ : Ev)]).flatMap Ev.cells := by
              rw [shiftEv hfl hfd, List.flatMap_append]
              rfl
            rw [hx4] at a4
            have hB4 := u4.at hB3 hbne
            simp only [← List.drop_one]
            refine ⟨a, ⟨by simpa using hB4, e.above, ?_, e.ne, by rw [List.length_append, List.length_drop]; simp; omega⟩, ?_, fun j hj => .inl hj⟩
            · rw [show (l.drop 1 ++ [(⟨s, p⟩ : Ev)]).length = l.length by simp; omega]
              exact a4
            · refine Upd.trans (Upd.trans (Upd.mono (S := fun _ => False) sm1 (fun _ _ h => absurd h id)) u3 ?_) u4 ?_
              · rintro j _ rfl
                exact .inr (Row.inRow (k := 0) e.acc.row (by omega))
              · rintro j _ rfl
                exact .inr (Row.inRow (k := 0) e.acc.row (by omega))
          · have h8' : ((l.length : Int) == 8) = false := by simp; omega
            rw [if_neg h8]
            simp [l0, hlen, h8', -load_ptr]
            refine WpA.drawnA [0, 1, 2, 3, 4, 5, 6, 7, 8, 9, 10] [[], [], [], [], [], [], [], [1, 2, 3, 4, 5, 6], [], [], [0, 1, 2, 3, 4, 5, 6, 7, 8, 9]] (by kernel_rfl) (by decide +kernel) (by decide +kernel) ?_
            have ln0 := lnew _ Same.refl
            have sm2 : Same h2 (h2 ++ [.cells [.string (bs s), .int .i64 p] false none, .cells [.string (bs s), .int .i64 p] false none]) := Same.new _
            have e2 := e.same sm2
            obtain ⟨v5, h5, q5, a5, u5, n5⟩ := e2.acc.append (P := Try.prog) (by_ := 24) (t := 44) (tx := 44) (e := 47) (x := .slice (some ⟨h2.length + 1, 0, none⟩) 1 1) (m := 1) (ys := [.string (bs s), .int .i64 p]) (by simp; omega) (by simp) (by simp) (by simp; rfl) (by simp [isSrc]) (by simp [srcA]) (by simp) rfl (by omega) (by omega)
            have hB5 := u5.at e2.at_ (fun h => e2.ne b h rfl)
            have hc5 := (Row.one a5.row).1
            have ho5 := (Row.one a5.row).2
            have l02 := load_at (P := Try.prog) (t := 44) (o := 0) e2.at_ (by simp)
            simp only [List.getElem?_cons_zero] at l02
            have hn2 : (h2 ++ [Blk.cells [.string (bs s), .int .i64 p] false none, Blk.cells [.string (bs s), .int .i64 p] false none])[h2.length]? = some (.cells [.string (bs s), .int .i64 p] false none) := by simp
            have ln2 : loadA Try.prog 47 (.pointer (some ⟨h2.length, 0, none⟩)) (h2 ++ [Blk.cells [.string (bs s), .int .i64 p] false none, Blk.cells [.string (bs s), .int .i64 p] false none]) = some (.agg #[.string (bs s), .int .i64 p]) := by
              simp only [loadA, hn2]; simp
            simp [l0, ln0, l02, ln2, q5, storeA, hB5, hc5, ho5, spl, zeros, capO, -load_ptr, -store_ptr]
            have hne5 : ∀ j, inRow v5 j → j ≠ b := fun j hj => by
              rcases n5 j hj with h | h
              · exact e.ne j h
              · simp at h; omega
            refine ⟨v5, ⟨List.getElem?_set_self (hp_lt hB5), e.above, ?_, hne5, by simp; omega⟩, ?_, fun j hj => ?_⟩
            · have ha := a5.upd (Upd.set (S := (· = b)) rfl (.cells [v5] false none)) (fun j hj h => hne5 j hj h)
              rw [List.length_append, List.flatMap_append]
              exact ha
            · refine Upd.trans (Upd.trans (Upd.mono (S := fun _ => False) sm2 (fun _ _ h => absurd h id)) u5 (fun j _ hj => .inr hj)) (Upd.set (S := (· = b)) rfl _) (fun j _ hj => .inl hj)
            · rcases n5 j hj with h | h
              · exact .inl h
              · simp at h; exact .inr (by omega)
end Go.Proofs.Ytojdhmkjegkfkaa
