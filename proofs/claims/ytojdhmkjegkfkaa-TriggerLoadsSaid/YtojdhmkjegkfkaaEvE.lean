/- trigger's events: what Load makes of the bytes of events; no condition. -/
import Derived.Test.YtojdhmkjegkfkaaEvD
namespace Go.Proofs.Ytojdhmkjegkfkaa
open Go.Ab
def evPos (l : List Ev) (i : Nat) : Nat := grps l.length + ((l.take i).flatMap evB).length
theorem evPos_drop (l : List Ev) (i : Nat) : (evsB l).drop (evPos l i) = (l.drop i).flatMap evB := by
  have h1 : evsB l = (enc l.length ++ (l.take i).flatMap evB) ++ (l.drop i).flatMap evB := by
    unfold evsB
    rw [List.append_assoc, ← List.flatMap_append, List.take_append_drop]
  have h2 : evPos l i = (enc l.length ++ (l.take i).flatMap evB).length := by unfold evPos; rw [List.length_append, enc_length]
  rw [h1, h2, List.drop_left]
theorem evPos_succ (l : List Ev) (i : Nat) (hi : i < l.length) : evPos l (i + 1) = evPos l i + (grps l[i].id.length + l[i].id.length) + grps l[i].pipe.toNat := by
  unfold evPos
  rw [List.take_add_one, List.getElem?_eq_getElem hi, List.flatMap_append, List.length_append]
  simp only [Option.toList_some, List.flatMap_cons, List.flatMap_nil, List.append_nil, evB, List.length_append, enc_length]
  omega
theorem takeE_next {l : List Ev} (ok : EvOk l) (hl : l.length ≤ 8) {i : Nat} (hi : i < l.length) : takeE (l.take i) l[i].id l[i].pipe = (0, l.take (i + 1)) := by
  have hm : l[i] ∈ l := List.getElem_mem _
  have h1 := ok.word _ hm
  have h2 := ok.pipe _ hm
  have hany : (l.take i).any (fun x => decide (x.id = l[i].id)) = false := by
    rw [List.any_eq_false]
    intro x hx
    obtain ⟨j, hj, rfl⟩ := List.mem_take_iff_getElem.1 hx
    have hji : j < i := by omega
    simp only [decide_eq_true_eq]
    intro he
    exact List.pairwise_iff_getElem.1 ok.nodup j i (by simp; omega) (by simp; omega) hji (by simpa using he)
  have hlen : ¬ (l.take i).length = 8 := by simp; omega
  have c1 : ¬ l[i].pipe < 0 := by omega
  have c2 : ¬ 2147483647 < l[i].pipe := by omega
  simp only [takeE, h1, hany]
  rw [if_neg hlen]
  have htk : l.take (i + 1) = l.take i ++ [l[i]] := by rw [List.take_add_one, List.getElem?_eq_getElem hi]; rfl
  simp [c1, c2]
  rw [htk]
set_option maxHeartbeats 1000000 in
theorem eload_ev {h : Hp} {w : Value} {l : List Ev} (ok : EvOk l) (hl8 : l.length ≤ 8) (hw : Bytes h w (evsB l)) :
    EvA Try.prog 34 [w] (fun r h' => Same h h' ∧ ∃ b a, r = .tuple #[.pointer (some ⟨b, 0, none⟩), .int .i64 0] ∧ EV h' h.length b a l) h := by
  refine EvA.body Try.func34 rfl (by kernel_rfl) (by simp) ?_
  apply Run.ok
  simp
  refine after_call (enew_ev h) ?_
  rintro r h1 ⟨rfl, s1, E1⟩
  simp
  refine after_call (newReader_ev w (evsB l) h1 (hw.same s1)) ?_
  rintro r h2 ⟨rfl, rfl⟩
  have hK := s1.len
  have hbE := hp_lt E1.at_
  have R : Rdr (h1 ++ [.cells [.string ⟨(evsB l).toArray⟩, .int .i64 0] false none]) h1.length ⟨(evsB l).toArray⟩ 0 := by simp [Rdr]
  have E2 := E1.same (Same.new [.cells [.string ⟨(evsB l).toArray⟩, .int .i64 0] false none])
  have s2 := Same.trans s1 (Same.new [.cells [.string ⟨(evsB l).toArray⟩, .int .i64 0] false none])
  have hfl := evsB_len ok
  have hen : (enc l.length).length ≤ 10 := by rw [enc_length]; exact grps_le _ (by omega)
  have hsz : (⟨(evsB l).toArray⟩ : ByteArray).size = (evsB l).length := by simp [ByteArray.size]
  have hel : (evsB l).length ≤ 10 + 84 * 8 := by unfold evsB; rw [List.length_append]; omega
  generalize h1 ++ [.cells [.string ⟨(evsB l).toArray⟩, .int .i64 0] false none] = g2 at R E2 s2 ⊢
  generalize h1.length = rb at R ⊢ hbE
  simp
  refine after_call (count_ev rb _ 0 8 g2 R (by rw [hsz]; omega)) ?_
  rintro r g3 ⟨rfl, R3, u3⟩
  have hld : (⟨(evsB l).toArray⟩ : ByteArray).data.toList = evsB l := by simp
  have hd0 : (evsB l).drop 0 = enc l.length ++ l.flatMap evB := rfl
  rw [hld, rd_cnt hd0 (by omega) (by omega)] at R3 ⊢
  rw [Nat.zero_add] at R3
  simp only at R3 ⊢
  have E3 := E2.upd u3 (by omega) (fun j hj => by obtain ⟨a, n, c, he, _⟩ := hj; cases he)
  have s3 : Same h g3 := Upd.trans s2 u3 fun j hj e => by omega
  simp
  refine WpA.loop (fun z fr g => ∃ i a, z = l.length - i ∧ i ≤ l.length ∧ fr 4 = .pointer (some ⟨h.length, 0, none⟩) ∧ fr 5 = .pointer (some ⟨rb, 0, none⟩) ∧ fr 11 = .int .i64 (l.length : Nat) ∧ fr 12 = .int .i64 (i : Nat) ∧ Same h g ∧ Rdr g rb ⟨(evsB l).toArray⟩ (evPos l i) ∧ EV g h.length h.length a (l.take i) ∧ (∀ j, inRow a j → j ≠ rb))
    (k := l.length) ⟨0, _, by simp, by omega, by simp, by simp, by simp, by simp, s3, by simpa [evPos] using R3, by simpa using E3, fun j hj => by obtain ⟨a, n, c, he, _⟩ := hj; cases he⟩ ?_
  clear R R3 E1 E2 E3 s1 s2 s3 u3
  rintro z fr g ⟨i, a, rfl, hi, f4, f5, f11, f12, sm, R, E, na⟩
  apply Run.ok
  by_cases c : i < l.length
  · have c' : (i : Int) < l.length := by omega
    have w1 : IntKind.i64.wrap ((i : Int) + 1) = (i : Int) + 1 := wrap_i64 (by omega) (by omega)
    have hm : l[i] ∈ l := List.getElem_mem _
    have hw1 := word_len (ok.word _ hm)
    have hp1 := ok.pipe _ hm
    have hnx := takeE_next ok hl8 c
    have hps := evPos_succ l i c
    have hdr : (evsB l).drop (evPos l i) = enc l[i].id.length ++ l[i].id ++ (enc l[i].pipe.toNat ++ (l.drop (i + 1)).flatMap evB) := by
      rw [evPos_drop, List.drop_eq_getElem_cons c, List.flatMap_cons, evB, List.append_assoc]
    have hdr2 : (evsB l).drop (evPos l i + (grps l[i].id.length + l[i].id.length)) = enc l[i].pipe.toNat ++ (l.drop (i + 1)).flatMap evB := by
      rw [← List.drop_drop, hdr, show grps l[i].id.length + l[i].id.length = (enc l[i].id.length ++ l[i].id).length by rw [List.length_append, enc_length], List.drop_left]
    generalize l[i] = x at hm hw1 hp1 hnx hps hdr hdr2
    simp [f4, f5, f11, f12, c']
    refine after_call (str_ev rb _ (evPos l i) 64 g R (by rw [hsz]; omega)) ?_
    rintro r5 g5 ⟨rfl, R5, u5⟩
    rw [hld, rd_str hdr (by omega) (by omega)] at R5 ⊢
    simp only at R5 ⊢
    have E5 := E.upd u5 (by omega) (fun j hj e => na j hj e)
    have s5 : Same h g5 := Upd.trans sm u5 fun j hj e => by omega
    simp [f4, f5]
    refine after_call (count_ev rb _ (evPos l i + (grps x.id.length + x.id.length)) 2147483647 g5 R5 (by rw [hsz]; omega)) ?_
    rintro r6 g6 ⟨rfl, R6, u6⟩
    rw [hld, rd_cnt hdr2 (by omega) (by omega)] at R6 ⊢
    simp only at R6 ⊢
    rw [← hps] at R6
    have E6 := E5.upd u6 (by omega) (fun j hj e => na j hj e)
    have s6 : Same h g6 := Upd.trans s5 u6 fun j hj e => by omega
    have hpn : ((x.pipe.toNat : Nat) : Int) = x.pipe := by omega
    rw [hpn]
    simp
    refine after_call (etake_ev x.id (by omega) x.pipe E6 s6.len) ?_
    rintro r7 g7 ⟨rfl, a', E7, u7, n7⟩
    rw [hnx] at E7 ⊢
    simp only at E7 ⊢
    have hrl := hp_lt R6
    have R7 : Rdr g7 rb ⟨(evsB l).toArray⟩ (evPos l (i + 1)) := u7.at R6 fun hin => by
      rcases hin with h | h
      · omega
      · exact na _ h rfl
    have s7 : Same h g7 := Upd.trans s6 u7 fun j hj hin => by
      rcases hin with h | h
      · omega
      · have := (E6.acc.above j h).1; omega
    simp [f4, f5, f11, f12, w1, -roundQ_normal, ↓rq]
    refine stop_intro ⟨l.length - (i + 1), by omega, i + 1, a', rfl, by omega, by simp [f4], by simp [f5], by simp [f11], by simp, s7, R7, E7, fun j hj e => ?_⟩
    rcases n7 j hj with h | h
    · exact na j h e
    · omega
  · have c' : ¬ (i : Int) < l.length := by omega
    rw [List.take_of_length_le (by omega)] at E
    simp [f4, f5, f11, f12, c']
    refine after_call (rdone_ev rb _ (evPos l i) g R) ?_
    rintro r5 g5 ⟨rfl, rfl⟩
    have hdn : decide (evPos l i = (⟨(evsB l).toArray⟩ : ByteArray).size) = true := by
      rw [hsz]; unfold evPos evsB
      rw [List.take_of_length_le (by omega), List.length_append, enc_length]; simp
    rw [hdn]
    simp [f4]
    exact ⟨sm, a, E⟩
end Go.Proofs.Ytojdhmkjegkfkaa
