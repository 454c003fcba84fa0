/- trigger's events: List; what Take does to the last eight; no condition. -/
import Derived.Test.YtojdhmkjegkfkaaEvB
namespace Go.Proofs.Ytojdhmkjegkfkaa
open Go.Ab
theorem EV.upd {h h' : Hp} {k b : Nat} {a : Value} {l : List Ev} {S : Nat → Prop} (e : EV h k b a l) (u : Upd S h h') (hb : ¬ S b) (ha : ∀ j, inRow a j → ¬ S j) : EV h' k b a l := ⟨u.at e.at_ hb, e.above, e.acc.upd u ha, e.ne, e.len⟩
theorem eclone_ev {h : Hp} {k : Nat} {a : Value} {l : List Ev} (ha : Acc k h 2 a l.length (l.flatMap Ev.cells)) (hl : l.length ≤ 8) :
    EvA Try.prog 57 [a] (fun r h' => Acc h.length h' 2 r l.length (l.flatMap Ev.cells) ∧ Same h h') h := by
  refine EvA.body Try.func57 rfl (by kernel_rfl) (by simp) ?_
  apply Run.ok
  have hsr := (ha.same (Same.new [.cells [] false none])).sl.2
  have hsl := (ha.same (Same.new [.cells [] false none])).sl
  rcases row_nil ha.row with ⟨rfl, hn⟩ | ⟨a, c, rfl⟩
  · have : l = [] := List.eq_nil_of_length_eq_zero hn
    subst this
    simp
    exact ⟨Acc.nil _, Same.refl⟩
  · obtain ⟨v', h', e1, e2, e3, _⟩ := Acc.appendLit (P := Try.prog) (h := h ++ [.cells [] false none]) (z := 2) (k := h.length) (b := h.length) (t := 44) (tx := 44) (e := 47) (by_ := 24) (dx := .slice 47) (Nat.le_refl _) (by simp) (by simp) (by simp) (by simp) rfl hsl.1.2.1 (by rw [evCells_len]) (by omega) (by omega)
    simp [zeros, capO, e1]
    exact ⟨e2, Same.trans (Same.new _) e3⟩
theorem elist_ev {h : Hp} {k b : Nat} {a : Value} {l : List Ev} (e : EV h k b a l) :
    EvA Try.prog 32 [.pointer (some ⟨b, 0, none⟩)] (fun r h' => Acc h.length h' 2 r l.length (l.flatMap Ev.cells) ∧ Same h h') h := by
  refine EvA.body Try.func32 rfl (by kernel_rfl) (by simp) ?_
  apply Run.ok
  have l0 := load_at (P := Try.prog) (t := 44) (o := 0) e.at_ (by simp)
  simp only [List.getElem?_cons_zero] at l0
  simp [l0, -load_ptr]
  refine after_call (eclone_ev e.acc e.len) ?_
  rintro r h' ⟨q1, q2⟩
  simp
  exact ⟨q1, q2⟩
theorem seenE_at {l : List Ev} (hn : (l.map Ev.id).Nodup) {i : Nat} (hi : i < l.length) : seenE l l[i].id = (l[i].pipe, true) := by
  unfold seenE
  have : l.find? (fun x => decide (x.id = l[i].id)) = some l[i] := by
    rw [List.find?_eq_some_iff_getElem]
    refine ⟨by simp, i, hi, rfl, fun j hj => ?_⟩
    simp only [Bool.not_eq_true', decide_eq_false_iff_not]
    intro he
    have h1 : (l.map Ev.id)[j]'(by simp; omega) = (l.map Ev.id)[i]'(by simp; omega) := by simpa using he
    exact List.pairwise_iff_getElem.1 hn j i (by simp; omega) (by simp; omega) hj h1
  rw [this]
/-- the last eight of what was taken -/
def last8 (T : List (List UInt8)) : List (List UInt8) := T.drop (T.length - 8)
theorem last8_take {l : List Ev} {T : List (List UInt8)} {s : List UInt8} (p : Int) (hl : l.map Ev.id = last8 T) (hs : s ∉ last8 T) (hn : (l.map Ev.id).Nodup) :
    (((if l.length = 8 then l.drop 1 else l) ++ [⟨s, p⟩] : List Ev).map Ev.id) = last8 (T ++ [s]) ∧ ((((if l.length = 8 then l.drop 1 else l) ++ [⟨s, p⟩] : List Ev)).map Ev.id).Nodup := by
  have hlen : l.length = T.length - (T.length - 8) := by
    have := congrArg List.length hl
    simpa [last8] using this
  have key : (((if l.length = 8 then l.drop 1 else l) ++ [⟨s, p⟩] : List Ev).map Ev.id) = last8 (T ++ [s]) := by
    unfold last8 at hl ⊢
    rw [List.map_append]
    by_cases h8 : l.length = 8
    · have h9 : 8 ≤ T.length := by omega
      have hh : (T ++ [s]).length = T.length + 1 := by simp
      rw [if_pos h8, List.map_drop, hl, List.drop_drop, List.drop_append_of_le_length (by omega)]
      rw [hh, show T.length - 8 + 1 = T.length + 1 - 8 by omega]
      rfl
    · have h9 : T.length < 8 := by omega
      rw [if_neg h8, hl, show T.length - 8 = 0 by omega, show (T ++ [s]).length - 8 = 0 by simp; omega]
      rfl
  refine ⟨key, ?_⟩
  rw [List.map_append]
  rw [List.nodup_append]
  refine ⟨?_, by simp, ?_⟩
  · by_cases h8 : l.length = 8
    · rw [if_pos h8, List.map_drop]; exact hn.sublist (List.drop_sublist _ _)
    · rw [if_neg h8]; exact hn
  · intro x hx y hy he
    simp at hy; subst hy; subst he
    apply hs
    rw [← hl]
    by_cases h8 : l.length = 8
    · rw [if_pos h8, List.map_drop] at hx; exact List.mem_of_mem_drop hx
    · rw [if_neg h8] at hx; exact hx
end Go.Proofs.Ytojdhmkjegkfkaa
