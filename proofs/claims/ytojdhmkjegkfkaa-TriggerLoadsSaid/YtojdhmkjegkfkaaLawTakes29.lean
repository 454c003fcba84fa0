/- The law TriggerTakes: called, it comes to true; no condition. -/
import Derived.Test.YtojdhmkjegkfkaaRef29C
import Derived.Test.YtojdhmkjegkfkaaLawLast
namespace Go.Proofs.Ytojdhmkjegkfkaa
open Go.Ab
structure Tst where
  kind : Int
  id : List UInt8
  pipe : Int
def Tst.cells (s : Tst) : List Value := [.int .u8 s.kind, str s.id, .int .i64 s.pipe]
theorem takeE_ok {l : List Ev} (ok : EvOk l) (s : List UInt8) (p : Int) : EvOk (takeE l s p).2 := by
  unfold takeE
  split
  · exact ok
  · rename_i hw
    split
    · exact ok
    · rename_i hp
      split
      · exact ok
      · rename_i ha
        have hmem : ∀ x ∈ (if l.length = 8 then l.drop 1 else l), x ∈ l := fun x hx => by
          split at hx
          · exact List.mem_of_mem_drop hx
          · exact hx
        have hnd : ((if l.length = 8 then l.drop 1 else l).map Ev.id).Nodup := by
          split
          · rw [List.map_drop]; exact ok.nodup.sublist (List.drop_sublist _ _)
          · exact ok.nodup
        simp only [Bool.not_eq_true, Bool.not_eq_false] at hw
        simp only [List.any_eq_true, not_exists, not_and, decide_eq_true_eq, Bool.not_eq_true, decide_eq_false_iff_not] at ha
        refine ⟨fun x hx => ?_, fun x hx => ?_, ?_⟩
        · rcases List.mem_append.1 hx with hx | hx
          · exact ok.word x (hmem x hx)
          · simp at hx; subst hx; simpa using hw
        · rcases List.mem_append.1 hx with hx | hx
          · exact ok.pipe x (hmem x hx)
          · simp at hx; subst hx; simp only; omega
        · rw [List.map_append, List.nodup_append]
          refine ⟨hnd, by simp, ?_⟩
          intro x hx y hy he
          simp at hy; subst hy; subst he
          obtain ⟨z, hz, hze⟩ := List.mem_map.1 hx
          exact ha z (hmem z hz) hze
/-- both stand alike, apart -/
structure Evs (h : Hp) (k b : Nat) (a : Value) (c : Nat) (v : Value) (L : List Ev) : Prop where
  e : EV h k b a L
  r : RE h k c v L
  ok : EvOk L
  d : ∀ j, ownE b a j → ¬ ownE c v j
theorem Evs.lo {h : Hp} {k b c : Nat} {a v : Value} {L : List Ev} (t : Evs h k b a c v L) (j : Nat) (hj : ownE b a j ∨ ownE c v j) : k ≤ j ∧ j < h.length := by
  rcases hj with (rfl | hj) | (rfl | hj)
  · exact ⟨t.e.above, hp_lt t.e.at_⟩
  · exact t.e.acc.above j hj
  · exact ⟨t.r.above, hp_lt t.r.at_⟩
  · exact t.r.ab j hj
theorem Evs.upd {S : Nat → Prop} {h h' : Hp} {k b c : Nat} {a v : Value} {L : List Ev} (t : Evs h k b a c v L) (u : Upd S h h') (hn : ∀ j, ownE b a j ∨ ownE c v j → ¬ S j) : Evs h' k b a c v L :=
  ⟨t.e.upd u (hn b (.inl (.inl rfl))) fun j hj => hn j (.inl (.inr hj)), t.r.upd u (hn c (.inr (.inl rfl))) fun j hj => hn j (.inr (.inr hj)), t.ok, t.d⟩
theorem Evs.same {h h' : Hp} {k b c : Nat} {a v : Value} {L : List Ev} (t : Evs h k b a c v L) (u : Same h h') : Evs h' k b a c v L := t.upd u fun _ _ h => h
theorem EV.down {h : Hp} {k j b : Nat} {a : Value} {l : List Ev} (hj : j ≤ k) (e : EV h k b a l) : EV h j b a l := ⟨e.at_, Nat.le_trans hj e.above, Acc.down hj e.acc, e.ne, e.len⟩
/-- both take the same -/
theorem Evs.take {h h1 h2 : Hp} {k b c : Nat} {a a1 v v1 : Value} {L L1 : List Ev} (t : Evs h k b a c v L) (ok : EvOk L1)
    (e1 : EV h1 k b a1 L1) (u1 : Upd (ownE b a) h h1) (n1 : ∀ j, inRow a1 j → inRow a j ∨ h.length ≤ j)
    (r2 : RE h2 k c v1 L1) (u2 : Upd (ownE c v) h1 h2) (n2 : ∀ j, inRow v1 j → inRow v j ∨ h1.length ≤ j) : Evs h2 k b a1 c v1 L1 := by
  have hown : ∀ j, ownE b a1 j → ownE b a j ∨ h.length ≤ j := fun j hj => by
    rcases hj with rfl | hj
    · exact .inl (.inl rfl)
    · rcases n1 j hj with h | h
      · exact .inl (.inr h)
      · exact .inr h
  have hlt1 : ∀ j, ownE b a1 j → j < h1.length := fun j hj => by
    rcases hj with rfl | hj
    · exact hp_lt e1.at_
    · exact (e1.acc.above j hj).2
  have hd1 : ∀ j, ownE b a1 j → ¬ ownE c v j := fun j hj hc => by
    rcases hown j hj with h | h
    · exact t.d j h hc
    · have := (t.lo j (.inr hc)).2; omega
  refine ⟨e1.upd u2 (hd1 b (.inl rfl)) fun j hj => hd1 j (.inr hj), r2, ok, fun j hj hc => ?_⟩
  rcases hc with rfl | hc
  · exact hd1 _ hj (.inl rfl)
  · rcases n2 j hc with h | h
    · exact hd1 j hj (.inr h)
    · have := hlt1 j hj; omega
end Go.Proofs.Ytojdhmkjegkfkaa
