/- trigger's events: their bytes, a copy; no condition. -/
import Derived.Test.YtojdhmkjegkfkaaEvC
import Derived.Test.YtojdhmkjegkfkaaLay
import Derived.Test.YtojdhmkjegkfkaaReader
import Derived.Test.YtojdhmkjegkfkaaDraws
namespace Go.Proofs.Ytojdhmkjegkfkaa
open Go.Ab
def evB (x : Ev) : List UInt8 := enc x.id.length ++ x.id ++ enc x.pipe.toNat
def evsB (l : List Ev) : List UInt8 := enc l.length ++ l.flatMap evB
/-- events that may be -/
structure EvOk (l : List Ev) : Prop where
  word : ∀ x ∈ l, wordB x.id = true
  pipe : ∀ x ∈ l, 0 ≤ x.pipe ∧ x.pipe ≤ 2147483647
  nodup : (l.map Ev.id).Nodup
theorem word_len {s : List UInt8} (h : wordB s = true) : s.length ≤ 64 := by
  unfold wordB at h
  simp only [Bool.and_eq_true, decide_eq_true_eq] at h
  exact h.2
theorem evB_len {x : Ev} (h : wordB x.id = true) (hp : 0 ≤ x.pipe ∧ x.pipe ≤ 2147483647) : (evB x).length ≤ 84 := by
  have h1 := grps_le x.id.length (by have := word_len h; omega)
  have h2 := grps_le x.pipe.toNat (by omega)
  have h3 := word_len h
  simp only [evB, List.length_append, enc_length]; omega
theorem evsB_len {l : List Ev} (h : EvOk l) : (l.flatMap evB).length ≤ 84 * l.length := by
  have key : ∀ m : List Ev, (∀ x ∈ m, wordB x.id = true) → (∀ x ∈ m, 0 ≤ x.pipe ∧ x.pipe ≤ 2147483647) → (m.flatMap evB).length ≤ 84 * m.length := by
    intro m
    induction m with
    | nil => simp
    | cons x m ih =>
      intro h1 h2
      have := evB_len (h1 x (by simp)) (h2 x (by simp))
      have := ih (fun y hy => h1 y (by simp [hy])) (fun y hy => h2 y (by simp [hy]))
      rw [List.flatMap_cons, List.length_append, List.length_cons]; omega
  exact key l h.word h.pipe
set_option maxHeartbeats 1000000 in
theorem ebytes_ev {h : Hp} {k b : Nat} {a : Value} {l : List Ev} (e : EV h k b a l) (ok : EvOk l) :
    EvA Try.prog 38 [.pointer (some ⟨b, 0, none⟩)] (fun r h' => BAcc h.length h' r (evsB l) ∧ Same h h') h := by
  refine EvA.body Try.func38 rfl (by kernel_rfl) (by simp) ?_
  apply Run.ok
  have hl := e.len
  have l0 := load_at (P := Try.prog) (t := 44) (o := 0) e.at_ (by simp)
  simp only [List.getElem?_cons_zero] at l0
  have hlen := e.row.len (P := Try.prog) (t := 44) (e := 47) (by simp)
  simp [l0, hlen, -load_ptr]
  refine after_call (count_lay_ev (.slice none 0 0) [] (l.length : Nat) h Row.nil (by simp)) ?_
  rintro r h1 ⟨A1, s1⟩
  have hcb : cntB (l.length : Nat) = enc l.length := by
    unfold cntB; rw [if_neg (by omega)]; rfl
  have hen : (enc l.length).length ≤ 10 := by rw [enc_length]; exact grps_le _ (by omega)
  rw [List.nil_append, hcb] at A1
  have e1 := e.same s1
  have l01 := load_at (P := Try.prog) (t := 44) (o := 0) e1.at_ (by simp)
  simp only [List.getElem?_cons_zero] at l01
  have hlen1 := e1.row.len (P := Try.prog) (t := 44) (e := 47) (by simp)
  simp [l01, hlen1, -load_ptr]
  refine WpA.loop (fun z fr g => ∃ i v, z = l.length - i ∧ i ≤ l.length ∧ fr 3 = v ∧ fr 17 = a ∧ fr 18 = .int .i64 (l.length : Nat) ∧ fr 19 = .int .i64 (i : Nat) ∧ Same h g ∧ BAcc h.length g v (enc l.length ++ (l.take i).flatMap evB))
    (k := l.length) ⟨0, r, by simp, by omega, by simp, by simp, by simp, by simp, s1, by simpa using A1⟩ ?_
  rintro z fr g ⟨i, v, rfl, hi, f3, f17, f18, f19, sm, A⟩
  apply Run.ok
  by_cases c : i < l.length
  · have c' : (i : Int) < l.length := by omega
    have w1 : IntKind.i64.wrap ((i : Int) + 1) = (i : Int) + 1 := wrap_i64 (by omega) (by omega)
    have eg := e.same sm
    have ia := eg.row.ia (P := Try.prog) (t := 44) (e := 47) (by simp) (by simp) c .i64
    have ld : loadA Try.prog 47 (.pointer (some ⟨rbl a, rof a + i * 2, none⟩)) g = some (.agg #[.string (bs l[i].id), .int .i64 l[i].pipe]) := by
      rw [eg.row.agg (P := Try.prog) (e := 47) (by simp) (by simp) c]; rfl
    have htk : l.take (i + 1) = l.take i ++ [l[i]] := by rw [List.take_add_one, List.getElem?_eq_getElem c]; rfl
    have hm : l[i] ∈ l := List.getElem_mem _
    have hw := ok.word _ hm
    have hp := ok.pipe _ hm
    have hwl := word_len hw
    have hbl : (l.take i).length ≤ 8 := by simp; omega
    have hfl : ((l.take i).flatMap evB).length ≤ 84 * 8 := by
      have := evsB_len (l := l.take i) ⟨fun x hx => ok.word x (List.mem_of_mem_take hx), fun x hx => ok.pipe x (List.mem_of_mem_take hx), by rw [List.map_take]; exact ok.nodup.sublist (List.take_sublist _ _)⟩
      omega
    generalize l[i] = x at ld htk hm hw hp hwl
    have s2 : Same g (g ++ [.cells [.string (bs x.id), .int .i64 x.pipe] false none]) := Same.new _
    have hB2 : (g ++ [Blk.cells [.string (bs x.id), .int .i64 x.pipe] false none])[g.length]? = some (.cells [.string (bs x.id), .int .i64 x.pipe] false none) := by simp
    simp [f3, f17, f18, f19, c', ia, ld, -load_ptr]
    generalize g ++ [Blk.cells [.string (bs x.id), .int .i64 x.pipe] false none] = g2 at s2 hB2 ⊢
    have p0 := load_at (P := Try.prog) (t := 9) (o := 0) hB2 (by simp)
    have p1 := load_at (P := Try.prog) (t := 3) (o := 1) hB2 (by simp)
    simp only [List.getElem?_cons_zero, List.getElem?_cons_succ] at p0 p1
    refine WpA.drawnT [0, 1, 2, 4, 5, 3, 6, 7] [[], [], [], [0, 1, 2], [], [], [0, 1, 2, 3, 4, 5]] [[], [], [1], [0, 1, 2], [], [4], [0, 1, 2, 3, 4, 5], [0, 1, 2, 3, 4, 5, 6]] (by kernel_rfl) (by decide +kernel) (by decide +kernel) (by decide +kernel) ?_
    simp [f3, p0, p1, -load_ptr]
    refine after_call (str_lay_ev v _ (bs x.id) g2 (A.same s2).row (by rw [List.length_append]; omega) (by simp; omega)) ?_
    rintro r3 g3 ⟨A3, s3⟩
    have p13 := load_at (P := Try.prog) (t := 3) (o := 1) (s3.at hB2) (by simp)
    have p03 := load_at (P := Try.prog) (t := 9) (o := 0) (s3.at hB2) (by simp)
    simp only [List.getElem?_cons_zero, List.getElem?_cons_succ] at p13 p03
    simp [f3, p13, p03, -load_ptr]
    have hs1 : (bs x.id).size = x.id.length := by simp
    have hs2 : (bs x.id).data.toList = x.id := by simp [bs]
    rw [hs1, hs2] at A3
    have hen2 : (enc x.id.length).length ≤ 10 := by rw [enc_length]; exact grps_le _ (by omega)
    refine after_call (count_lay_ev r3 _ x.pipe g3 A3.row (by simp only [List.length_append]; omega)) ?_
    rintro r4 g4 ⟨A4, s4⟩
    have hcp : cntB x.pipe = enc x.pipe.toNat := by unfold cntB; rw [if_neg (by omega)]
    rw [hcp] at A4
    have p14 := load_at (P := Try.prog) (t := 3) (o := 1) (s4.at (s3.at hB2)) (by simp)
    have p04 := load_at (P := Try.prog) (t := 9) (o := 0) (s4.at (s3.at hB2)) (by simp)
    simp only [List.getElem?_cons_zero, List.getElem?_cons_succ] at p14 p04
    have s5 := Same.trans (Same.trans (Same.trans sm s2) s3) s4
    simp [f3, f17, f18, f19, p14, p04, w1, -load_ptr, -roundQ_normal, ↓rq]
    refine stop_intro ⟨l.length - (i + 1), by omega, i + 1, r4, rfl, by omega, by simp, by simp [f17], by simp [f18], by simp, s5, ?_⟩
    have hd : h.length ≤ g3.length := (Same.trans (Same.trans sm s2) s3).len
    have hx : enc l.length ++ (l.take (i + 1)).flatMap evB = enc l.length ++ (l.take i).flatMap evB ++ enc x.id.length ++ x.id ++ enc x.pipe.toNat := by
      rw [htk, List.flatMap_append, List.flatMap_singleton, evB]; simp only [List.append_assoc]
    rw [hx]
    exact Acc.down hd A4
  · have c' : ¬ (i : Int) < l.length := by omega
    rw [List.take_of_length_le (by omega)] at A
    simp [f3, f17, f18, f19, c']
    exact ⟨A, sm⟩
theorem ecopy_ev {h : Hp} {k b : Nat} {a : Value} {l : List Ev} (e : EV h k b a l) :
    EvA Try.prog 40 [.pointer (some ⟨b, 0, none⟩)] (fun r h' => Same h h' ∧ ∃ b' a', r = .pointer (some ⟨b', 0, none⟩) ∧ EV h' h.length b' a' l) h := by
  refine EvA.body Try.func40 rfl (by kernel_rfl) (by simp) ?_
  apply Run.ok
  simp
  refine after_call (elist_ev e) ?_
  rintro r h1 ⟨A1, s1⟩
  have hc := (Row.one A1.row).1
  simp [hc, spl]
  refine ⟨Same.trans s1 (Same.new _), r, ⟨by simp, s1.len, A1.same (Same.new _), fun j hj => ?_, e.len⟩⟩
  have := (A1.above j hj).2
  omega
theorem wth_enc {u : Nat} {above : Int} (R : List UInt8) (h1 : u ≤ 2147483647) (h2 : (u : Int) ≤ above) : wth (enc u ++ R) above = (u, grps u) := by
  have hn : num (enc u ++ R) = (u, grps u) := num_some ⟨by omega, ⟨R, rfl⟩⟩
  unfold wth
  rw [hn, if_neg (by simp only; omega)]
theorem rd_cnt {l R : List UInt8} {a u : Nat} {above : Int} (hd : l.drop a = enc u ++ R) (h1 : u ≤ 2147483647) (h2 : (u : Int) ≤ above) :
    rdLook l a (.int .i64 0) (cntLook above (l.drop a)) = (.int .i64 (u : Nat), a + grps u) := by
  have hg := grps_pos u
  have hal : a ≤ l.length := by
    rcases Nat.le_total a l.length with h | h
    · exact h
    · rw [List.drop_eq_nil_of_le h] at hd
      have := congrArg List.length hd
      rw [List.length_append, enc_length] at this
      simp at this; omega
  simp only [rdLook, cntLook, hd, wth_enc R h1 h2]
  rw [if_pos hal, if_neg (by omega)]
theorem rd_str {l R s : List UInt8} {a : Nat} {above : Int} (hd : l.drop a = enc s.length ++ s ++ R) (h1 : s.length ≤ 2147483647) (h2 : (s.length : Int) ≤ above) :
    rdLook l a (.string ⟨#[]⟩) (strLook above (l.drop a)) = (.string (bs s), a + (grps s.length + s.length)) := by
  have hg := grps_pos s.length
  rw [List.append_assoc] at hd
  have hal : a ≤ l.length := by
    rcases Nat.le_total a l.length with h | h
    · exact h
    · rw [List.drop_eq_nil_of_le h] at hd
      have := congrArg List.length hd
      rw [List.length_append, enc_length] at this
      simp at this; omega
  have hgl : grps s.length = (enc s.length).length := (enc_length _).symm
  have hcond : ¬ ((grps s.length = 0) ∨ s.length > (enc s.length ++ (s ++ R)).length - grps s.length) := by
    rw [List.length_append, enc_length, List.length_append]; omega
  have hsl : strLook above (enc s.length ++ (s ++ R)) = (.string (bs s), grps s.length + s.length) := by
    unfold strLook
    rw [wth_enc (s ++ R) h1 h2, if_neg hcond]
    simp only
    rw [hgl, List.drop_left, List.take_left]
    rfl
  simp only [rdLook, hd, hsl]
  rw [if_pos hal, if_neg (by omega)]
end Go.Proofs.Ytojdhmkjegkfkaa
