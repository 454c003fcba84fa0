/- Desks of badges: Load; no condition. -/
import Derived.Test.YtaahkamnpobofaaPLoad26
namespace Go.Proofs.Ytaahkamnpobofaa
open Go.Ab
section
variable {h g : Hp} {k d b : Nat} {last : Int} {L : List Bd} {v : Value}
theorem add_map {L : List Bd} {x : Bd} (hr : ∀ y ∈ L, y.no < x.no) : putM x.no x.agg (L.map cellB) = (L ++ [x]).map cellB := by
  rw [putM_new]
  · simp [cellB]
  · rw [lkp_desk, atL_none]
    · rfl
    · intro y hy e
      have := hr y hy
      omega
set_option maxHeartbeats 4000000 in
set_option maxRecDepth 6000 in
theorem load_ev {l : List UInt8} (hb : Bytes h v l) (hl : l.length < 1000000000000) :
    EvA Try.prog 25 [v] (fun r h' => Same h h' ∧ match loadD l with
      | none => r = .tuple #[.pointer none, .int .i64 4]
      | some (last, L) => ∃ d b, r = .tuple #[.pointer (some ⟨d, 0, none⟩), .int .i64 0] ∧ DeskR h' h.length d b last L) h := by
  refine EvA.body Try.func25 rfl (by kernel_rfl) (by simp) ?_
  apply Run.ok
  simp
  refine after_call (newReader_o hb (by omega)) ?_
  rintro w g1 ⟨rfl, R1, s1⟩
  have hg1 := s1.len
  have hr1 := R1.lt
  simp
  refine after_call (count_o 2147483647 R1) ?_
  rintro w g2 ⟨rfl, R2, u2⟩
  have hcl := cntO_le 2147483647 (some l)
  simp
  refine after_call (new26_ok g2 (by omega) (by omega)) ?_
  rintro w g3 ⟨rfl, D3, s3⟩
  have hg3 := s3.len
  have hg2 := u2.len
  have R3 := R2.same s3
  simp
  refine after_call (count_o 4 R3) ?_
  rintro w g4 ⟨rfl, R4, u4⟩
  have hn4 := (cntO_le 4 (cntO 2147483647 (some l)).2).2 (by omega)
  have D4 := D3.upd u4 (by omega) (by omega)
  have sm4 : Same h g4 := Upd.trans (Upd.trans (Upd.trans s1 u2 fun j hj e => by omega) s3 fun j hj e => e) u4 fun j hj e => by omega
  unfold loadD
  generalize hLast : (((cntO 2147483647 (some l)).1 : Nat) : Int) = last at *
  generalize (cntO 4 (cntO 2147483647 (some l)).2).2 = o0 at R4 ⊢
  generalize (cntO 4 (cntO 2147483647 (some l)).2).1 = n at hn4 ⊢
  obtain ⟨db, hdb⟩ : ∃ db, db = g2.length := ⟨_, rfl⟩
  rw [← hdb] at D4 ⊢
  have hkb : h.length < db := by omega
  have hr2 : h.length < g2.length := by omega
  simp
  refine WpA.loop (fun z fr g => ∃ (i : Nat) (at' : Int) (o : Option (List UInt8)) (A : List Bd), z = n - i ∧ i ≤ n ∧ fr 4 = .pointer (some ⟨h.length, 0, none⟩) ∧ fr 5 = .pointer (some ⟨db + 1, 0, none⟩) ∧ fr 6 = .int .i64 at' ∧ fr 15 = .int .i64 (n : Nat) ∧ fr 16 = .int .i64 (i : Nat) ∧
      RdrO g h.length o ∧ DeskR g db (db + 1) db last A ∧ Same h g ∧ readB last n o0 0 [] = readB last (n - i) o at' A ∧ 0 ≤ at' ∧ ∀ y ∈ A, y.no ≤ at')
    (k := n) ⟨0, 0, o0, [], by simp, by omega, by simp, by simp, by simp, by simp, by simp, R4, D4, sm4, by simp, by omega, by simp⟩ ?_
  clear R1 R2 R3 R4 D3 D4 sm4 u2 u4 s1 s3 hb
  rintro z fr g ⟨i, at', o, A, rfl, hi, f4, f5, f6, f15, f16, R, D, sm, hread, hat, hle⟩
  apply Run.ok
  by_cases c : i < n
  · have c' : (i : Int) < n := by omega
    have w1 : IntKind.i64.wrap ((i : Int) + 1) = (i : Int) + 1 := wrap_i64 (by omega) (by omega)
    have hnext : n - i = (n - (i + 1)) + 1 := by omega
    rw [hnext] at hread
    simp only [readB] at hread
    simp [f4, f15, f16, c']
    refine after_call (count_o 2147483647 R) ?_
    rintro w e1 ⟨rfl, R1, u1⟩
    rw [show (((cntO 2147483647 o).1 : Nat) : Int) = (oneB o).1.no from rfl]
    simp [f4]
    refine after_call (count_o 2147483647 R1) ?_
    rintro w e2 ⟨rfl, R2, u2⟩
    rw [show (((cntO 2147483647 (cntO 2147483647 o).2).1 : Nat) : Int) = (oneB o).1.pipe from rfl]
    simp [f4]
    refine after_call (count_o 24 R2) ?_
    rintro w e3 ⟨rfl, R3, u3⟩
    rw [show (((cntO 24 (cntO 2147483647 (cntO 2147483647 o).2).2).1 : Nat) : Int) = (oneB o).1.job from rfl]
    simp [f4]
    refine after_call (count_o 4 R3) ?_
    rintro w e4 ⟨rfl, R4, u4⟩
    rw [show (((cntO 4 (cntO 24 (cntO 2147483647 (cntO 2147483647 o).2).2).2).1 : Nat) : Int) = (oneB o).1.runner from rfl]
    simp [f4]
    refine after_call (count_o 2147483647 R4) ?_
    rintro w e5 ⟨rfl, R5, u5⟩
    rw [show (((cntO 2147483647 (cntO 4 (cntO 24 (cntO 2147483647 (cntO 2147483647 o).2).2).2).2).1 : Nat) : Int) = (oneB o).1.heard from rfl]
    have R5 : RdrO e5 h.length (oneB o).2 := R5
    clear R1 R2 R3 R4
    generalize (oneB o).1 = x at hread ⊢
    generalize (oneB o).2 = o' at hread R5
    have ub : Upd (· = h.length) g e5 := (((u1.trans u2 fun _ _ h => h).trans u3 fun _ _ h => h).trans u4 fun _ _ h => h).trans u5 fun _ _ h => h
    have D5 := D.upd ub (by omega) (by omega)
    have sm5 : Same h e5 := Upd.trans sm ub fun j hj e => by omega
    have ea : ∀ z : Bd, z.agg = .agg #[.int .i64 z.pipe, .int .i64 z.job, .int .i64 z.runner, .int .i64 z.heard] := fun _ => rfl
    have sn : Same e5 (e5 ++ [Blk.cells x.cells false none]) := Same.new _
    have hx : (e5 ++ [Blk.cells x.cells false none])[e5.length]? = some (.cells x.cells false none) := by simp
    have D6 := D5.same sn
    have sm6 := sm5.trans sn
    have R6 := R5.same sn
    have lx := ldH hx
    have ll := D6.ldl
    simp only [Bd.cells] at lx ll D6 sm6 R6 hx
    generalize hE : e5 ++ [Blk.cells [Value.int .i64 x.pipe, .int .i64 x.job, .int .i64 x.runner, .int .i64 x.heard] false none] = e6 at lx ll D6 sm6 R6 hx
    by_cases p1 : x.no ≤ at'
    · rw [if_pos (.inl p1)] at hread
      rw [hread]
      simp [f6, spl, hE, p1, -load_ptr]
      exact sm6
    by_cases p2 : last < x.no
    · rw [if_pos (.inr (.inl p2))] at hread
      rw [hread]
      simp [f5, f6, spl, hE, p1, p2, ll, -load_ptr]
      exact sm6
    simp [f5, f6, spl, hE, p1, p2, ll, lx, -load_ptr]
    refine after_call (good26_ev x _) ?_
    rintro w g7 ⟨rfl, rfl⟩
    cases hgd : x.good with
    | false =>
      rw [if_pos (.inr (.inr (.inl hgd)))] at hread
      rw [hread]
      simp
      exact sm6
    | true =>
    simp [f5, lx, -load_ptr]
    refine after_call (busy_ev D6 x) ?_
    rintro w g8 ⟨s8, rfl⟩
    have D8 := D6.same s8
    have sm8 := sm6.trans s8
    have R8 := R6.same s8
    have hx8 := s8.at hx
    cases hbz : busyB A x with
    | true =>
      rw [if_pos (.inr (.inr (.inr hbz)))] at hread
      rw [hread]
      simp
      exact sm8
    | false =>
    rw [if_neg (by rw [hgd, hbz]; simp; omega)] at hread
    have lm := D8.ldm
    have lx8 := ldH (x := x) hx8
    have hrise : ∀ y ∈ A, y.no < x.no := fun y hy => by have := hle y hy; omega
    have up := putI D8.mp x.no x.agg
    rw [add_map hrise] at up
    have M := D8.mp.set ((A ++ [x]).map cellB)
    have hu : Upd (fun j => j = db) g8 (g8.set db (.map (((A ++ [x]).map cellB).map (cellM intK)))) := Upd.set (S := (· = db)) rfl _
    have hb2 := hu.at D8.at_ (fun e => by omega)
    have hlx := hp_lt hx
    have hx9 := hu.at hx8 (fun e => by have := D5.lt; omega)
    generalize g8.set db (.map (((A ++ [x]).map cellB).map (cellM intK))) = G at up M hu hb2 hx9
    have k3 := load_at (P := Try.prog) (t := 83) (o := 1) hb2 (by simp)
    simp only [List.getElem?_cons_zero, List.getElem?_cons_succ] at k3
    have lx9 := ldH (x := x) hx9
    simp
    refine WpA.drawnA [0, 1, 2, 3, 4, 5, 6] [[], [], [], [], [], [], [0, 1, 2, 3, 4, 5]] (by kernel_rfl) (by decide +kernel) (by decide +kernel) ?_
    simp [f5, f16, lm, lx8, k3, lx9, up, w1, -load_ptr, -roundQ_normal, ↓rq]
    refine stop_intro ⟨n - (i + 1), by omega, i + 1, x.no, o', A ++ [x], rfl, by omega, by simp [f4], by simp [f5], by simp, by simp [f15], by simp, R8.upd hu (by omega), ⟨hb2, M, D8.ok.add hrise (by omega) (by omega) hgd hbz, by omega, by omega⟩, Upd.trans sm8 hu fun j hj e => by omega, hread, by omega, fun y hy => ?_⟩
    rcases List.mem_append.1 hy with e | e
    · have := hrise y e; omega
    · simp only [List.mem_singleton] at e; subst e; omega
  · have c' : ¬ (i : Int) < n := by omega
    have hz : n - i = 0 := by omega
    rw [hz] at hread
    simp only [readB] at hread
    rw [hread]
    simp [f4, f15, f16, c']
    refine after_call (done_o R) ?_
    rintro w g7 ⟨rfl, rfl⟩
    by_cases co : o = some []
    · simp [f5, co]
      exact ⟨sm, db, D.at_, D.mp, D.ok, by omega, by omega⟩
    · simp [co]
      exact sm
end
end Go.Proofs.Ytaahkamnpobofaa
