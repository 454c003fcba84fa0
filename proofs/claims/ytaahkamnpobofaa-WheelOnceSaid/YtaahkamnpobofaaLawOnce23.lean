/- The law WheelOnce: called, it comes to true; no condition. -/
import Derived.Test.YtaahkamnpobofaaWheelJ
import Derived.Test.YtaahkamnpobofaaWorks23
namespace Go.Proofs.Ytaahkamnpobofaa
open Go.Ab
/-- a map, and the things that it has, in order -/
structure AOk (A : List (Int × Int)) (L : List Th) : Prop where
  srt : L.Pairwise Th.lt
  map : ∀ q n, lk q A = some n ↔ (⟨n, q⟩ : Th) ∈ L
  nd : KeysNd A
  len : A.length = L.length
theorem WOk.aok {H : List Th} {M : List (Int × Int)} {L : List Th} (w : WOk H M L) : AOk M L := ⟨w.srt, w.map, w.nd, w.len⟩
theorem AOk.wok {A : List (Int × Int)} {L : List Th} (a : AOk A L) : WOk L A L := ⟨rises_heap (a.srt.imp fun h => Th.asymm h), fun _ h => h, a.srt, a.map, a.nd, a.len⟩
theorem AOk.set {A : List (Int × Int)} {L : List Th} (a : AOk A L) (q n : Int) : AOk (pu q n A) (setL q n L) := by
  have w := a.wok
  refine ⟨ins_sorted (rem_sorted w.srt) (fun t ht e => (rem_mem.1 ht).2 (by rw [e])), fun r m => ?_, w.nd.pu, ?_⟩
  · rw [lk_pu, setL, ins_mem, rem_mem]
    by_cases h : r = q
    · subst h; simp; exact eq_comm
    · have : ¬ (⟨m, r⟩ : Th) = ⟨n, q⟩ := fun e => h (congrArg Th.key e)
      simp [h, this, w.map]
  · rw [pu_len, setL, (ins_perm _ _).length_eq, List.length_cons]
    cases hq : lk q A with
    | none => simp [w.rem_none hq, w.len]
    | some m =>
      have h1 := (w.clear hq).len
      have h2 := de_len hq
      simp; omega
theorem AOk.take {A : List (Int × Int)} {x : Th} {T : List Th} (a : AOk A (x :: T)) : AOk (de x.key A) T :=
  (a.wok.take (H' := T) rfl (List.Perm.refl _) (rises_heap ((List.pairwise_cons.1 a.srt).2.imp fun h => Th.asymm h))).aok
theorem AOk.get {A : List (Int × Int)} {L : List Th} (a : AOk A L) {x : Th} (h : x ∈ L) : lk x.key A = some x.due := (a.map _ _).2 h
theorem take_drop (now : Int) (L : List Th) : takeD now L ++ dropD now L = L := List.takeWhile_append_dropWhile
theorem dropD_head {now : Int} : ∀ {L : List Th} {y : Th} {T : List Th}, dropD now L = y :: T → now < y.due := by
  intro L
  induction L with
  | nil => intro y T h; simp [dropD] at h
  | cons x L ih =>
    intro y T h
    by_cases hx : x.due ≤ now
    · exact ih (by rw [← h]; simp [dropD, hx])
    · have : dropD now (x :: L) = x :: L := by simp [dropD, hx]
      rw [this] at h
      obtain ⟨rfl, _⟩ := List.cons.inj h
      omega
theorem dropD_all {now : Int} {L : List Th} (h : L.Pairwise Th.lt) : ∀ x ∈ dropD now L, now < x.due := by
  have hs : (dropD now L).Pairwise Th.lt := h.sublist (List.dropWhile_sublist _)
  cases hd : dropD now L with
  | nil => simp
  | cons y T =>
    have hy := dropD_head hd
    rw [hd] at hs
    intro x hx
    rcases List.mem_cons.1 hx with e | e
    · subst e; exact hy
    · have := (List.pairwise_cons.1 hs).1 x e
      unfold Th.lt at this
      omega
theorem takeD_le {now : Int} : ∀ {L : List Th}, ∀ x ∈ takeD now L, x.due ≤ now ∧ x ∈ L := by
  intro L
  induction L with
  | nil => intro x hx; simp [takeD] at hx
  | cons y L ih =>
    intro x hx
    by_cases hy : y.due ≤ now
    · rw [(takeD_cons (T := L) hy).1] at hx
      rcases List.mem_cons.1 hx with e | e
      · subst e; exact ⟨hy, by simp⟩
      · exact ⟨(ih x e).1, by simp [(ih x e).2]⟩
    · simp [takeD, hy] at hx
section
variable {h g : Hp} {ba : Nat} {A : List (Int × Int)}
theorem mlook2 (m : MapAt intK h ba (A.map mcell)) (q : Int) : lookupA Try.prog 36 (.map (some ba)) (.int .i64 q) true h = some (.tuple #[.int .i64 ((lk q A).getD 0), .bool (lk q A).isSome]) := by
  have := m.look2 (P := Try.prog) (t := 36) (kt := 3) (et := 3) (z := .int .i64 0) (by simp) (by simp [intK]) (by simp) q
  rw [lkp_m] at this
  refine this.trans ?_
  cases lk q A <;> rfl
theorem mlook (m : MapAt intK h ba (A.map mcell)) (q : Int) : lookupA Try.prog 36 (.map (some ba)) (.int .i64 q) false h = some (.int .i64 ((lk q A).getD 0)) := by
  have := m.look (P := Try.prog) (t := 36) (kt := 3) (et := 3) (z := .int .i64 0) (by simp) (by simp [intK]) (by simp) q
  rw [lkp_m] at this
  refine this.trans ?_
  cases lk q A <;> rfl
theorem mput (m : MapAt intK h ba (A.map mcell)) (q n : Int) : ∃ g, mapUpdateA Try.prog 36 (.map (some ba)) (.int .i64 q) (.int .i64 n) h = some g ∧ MapAt intK g ba ((pu q n A).map mcell) ∧ Upd (fun j => j = ba) h g := by
  have e := m.put (P := Try.prog) (t := 36) (kt := 3) (et := 3) (by simp) (by simp [intK]) q (.int .i64 n)
  refine ⟨_, e, ?_, Upd.set (S := (· = ba)) rfl _⟩
  rw [← put_m]
  exact m.set _
theorem mdel (m : MapAt intK h ba (A.map mcell)) {q n : Int} (hq : lk q A = some n) : ∃ g, deleteA Try.prog 36 (.map (some ba)) (.int .i64 q) h = some g ∧ MapAt intK g ba ((de q A).map mcell) ∧ Upd (fun j => j = ba) h g := by
  have e := m.del (P := Try.prog) (t := 36) (kt := 3) (et := 3) (by simp) (by simp [intK]) q (v := .int .i64 n) (by rw [lkp_m, hq]; rfl)
  refine ⟨_, e, ?_, Upd.set (S := (· = ba)) rfl _⟩
  rw [← del_m]
  exact m.set _
theorem msize (m : MapAt intK h ba (A.map mcell)) : lenA Try.prog 36 (.map (some ba)) h = some (.int .i64 (A.length : Nat)) := by
  have := m.size (P := Try.prog) (t := 36) (kt := 3) (et := 3) (by simp)
  simpa using this
end
/-- the wheel, and the map beside it -/
structure OnceS (h : Hp) (d ba : Nat) (B : Nat) (L : List Th) (A : List (Int × Int)) (g : Hp) : Prop where
  ex : ∃ b v H M, WM g h.length d b v H M ∧ WOk H M L ∧ H.length ≤ B ∧ ba ≠ d ∧ ba ≠ b ∧ ∀ j, inRow v j → j ≠ ba
  mp : MapAt intK g ba (A.map mcell)
  aok : AOk A L
  kb : h.length ≤ ba
  len : L.length ≤ B
  sm : Same h g
abbrev IRow (h : Hp) (v : Value) (l : List Int) : Prop := Row h 1 v l.length (intL l)
section
variable {h g : Hp} {v : Value} {l : List Int} {i : Nat}
theorem ILen (hv : IRow h v l) : lenA Try.prog 22 v h = some (.int .i64 (l.length : Nat)) := hv.len (P := Try.prog) (t := 22) (e := 3) (by simp)
theorem IIA (hv : IRow h v l) (hi : i < l.length) : indexAddrA Try.prog 22 v (.int .i64 (i : Nat)) = some (.pointer (some ⟨rbl v, rof v + i, none⟩)) := Row.ia1 (P := Try.prog) (t := 22) (e := 3) hv (by simp) (by simp) hi .i64
theorem ILD (hv : IRow h v l) (hi : i < l.length) : loadA Try.prog 3 (.pointer (some ⟨rbl v, rof v + i, none⟩)) h = some (.int .i64 l[i]) := by
  have := Row.ld1 (P := Try.prog) (f := 3) hv (by simp) hi
  rw [this]
  simp [intL, hi]
end
inductive OnceI1 (h : Hp) (d ba : Nat) (u v w : Value) (ks ds : List Int) (z : Nat) (fr : Fr) (g : Hp) : Prop
  | mk (i : Nat) (L : List Th) (A : List (Int × Int)) (hz : z = ks.length - i) (hi : i ≤ ks.length) (f0 : fr 0 = u) (f1 : fr 1 = v) (f2 : fr 2 = w) (f7 : fr 7 = .pointer (some ⟨d, 0, none⟩)) (f8 : fr 8 = .map (some ba)) (f9 : fr 9 = .int .i64 (i : Nat)) (s : OnceS h d ba i L A g)
inductive OnceI2 (h : Hp) (d ba : Nat) (u w : Value) (ns : List Int) (z : Nat) (fr : Fr) (g : Hp) : Prop
  | mk (i : Nat) (now : Int) (L : List Th) (A : List (Int × Int)) (hz : z = ns.length - i) (hi : i ≤ ns.length) (f0 : fr 0 = u) (f2 : fr 2 = w) (f7 : fr 7 = .pointer (some ⟨d, 0, none⟩)) (f8 : fr 8 = .map (some ba)) (f10 : fr 10 = .int .i64 now) (f11 : fr 11 = .int .i64 (i : Nat)) (s : OnceS h d ba 200 L A g)
theorem outAt {T : List Th} {k : Nat} (hk : k < T.length) : (intL (keysT T))[k]? = some (.int .i64 (nth T k).key) := by
  rw [nth_get hk]; simp [intL, keysT, hk]
/-- behind Due, in a round -/
structure MidS (h : Hp) (d ba : Nat) (R : List Th) (g : Hp) : Prop where
  ex : ∃ b v H M, WM g h.length d b v H M ∧ WOk H M R ∧ H.length ≤ 200 ∧ ba ≠ d ∧ ba ≠ b ∧ ∀ j, inRow v j → j ≠ ba
  kb : h.length ≤ ba
  sm : Same h g
inductive MidF (h : Hp) (d ba : Nat) (u w : Value) (i : Nat) (L : List Th) (A : List (Int × Int)) (fr : Fr) (g : Hp) : Prop
  | mk (now : Int) (ov : Value) (k2 : Nat) (f0 : fr 0 = u) (f2 : fr 2 = w) (f7 : fr 7 = .pointer (some ⟨d, 0, none⟩)) (f8 : fr 8 = .map (some ba)) (f10 : fr 10 = .int .i64 now) (f11 : fr 11 = .int .i64 (i : Nat)) (f12 : fr 12 = ov) (f13 : fr 13 = .int .i64 0)
    (s : MidS h d ba (dropD now L) g) (mp : MapAt intK g ba (A.map mcell)) (O : Acc k2 g 1 ov (takeD now L).length (intL (keysT (takeD now L)))) (no : ∀ j, inRow ov j → j ≠ ba)
inductive LoopA (u w ov : Value) (d ba : Nat) (now : Int) (i : Nat) (T : List Th) (g0 : Hp) (z : Nat) (fr : Fr) (g : Hp) : Prop
  | mk (k : Nat) (hz : z = T.length - k) (hk : k ≤ T.length) (f0 : fr 0 = u) (f2 : fr 2 = w) (f7 : fr 7 = .pointer (some ⟨d, 0, none⟩)) (f8 : fr 8 = .map (some ba)) (f10 : fr 10 = .int .i64 now) (f11 : fr 11 = .int .i64 (i : Nat)) (f12 : fr 12 = ov) (f13 : fr 13 = .int .i64 (k : Nat)) (e : g = g0)
inductive LoopB (u w ov : Value) (d ba : Nat) (now : Int) (i : Nat) (T : List Th) (g0 : Hp) (z : Nat) (fr : Fr) (g : Hp) : Prop
  | mk (k : Nat) (last : Int) (hz : z = T.length - k) (hk : k ≤ T.length) (f0 : fr 0 = u) (f2 : fr 2 = w) (f7 : fr 7 = .pointer (some ⟨d, 0, none⟩)) (f8 : fr 8 = .map (some ba)) (f10 : fr 10 = .int .i64 now) (f11 : fr 11 = .int .i64 (i : Nat)) (f12 : fr 12 = ov) (f16 : fr 16 = .int .i64 last) (f17 : fr 17 = .int .i64 (k : Nat)) (hl : ∀ q, k = q + 1 → last = (nth T q).due) (e : g = g0)
inductive LoopC (u w ov : Value) (d ba : Nat) (now : Int) (i k2 : Nat) (T R : List Th) (h : Hp) (z : Nat) (fr : Fr) (g : Hp) : Prop
  | mk (k : Nat) (A : List (Int × Int)) (hz : z = T.length - k) (hk : k ≤ T.length) (f0 : fr 0 = u) (f2 : fr 2 = w) (f7 : fr 7 = .pointer (some ⟨d, 0, none⟩)) (f8 : fr 8 = .map (some ba)) (f10 : fr 10 = .int .i64 now) (f11 : fr 11 = .int .i64 (i : Nat)) (f12 : fr 12 = ov) (f19 : fr 19 = .int .i64 (k : Nat))
    (s : MidS h d ba R g) (mp : MapAt intK g ba (A.map mcell)) (O : Acc k2 g 1 ov T.length (intL (keysT T))) (ao : AOk A (T.drop k ++ R))
inductive LoopD (u w : Value) (d ba : Nat) (now : Int) (i : Nat) (ks : List Int) (g0 : Hp) (z : Nat) (fr : Fr) (g : Hp) : Prop
  | mk (k : Nat) (hz : z = ks.length - k) (hk : k ≤ ks.length) (f0 : fr 0 = u) (f2 : fr 2 = w) (f7 : fr 7 = .pointer (some ⟨d, 0, none⟩)) (f8 : fr 8 = .map (some ba)) (f10 : fr 10 = .int .i64 now) (f11 : fr 11 = .int .i64 (i : Nat)) (f22 : fr 22 = .int .i64 (k : Nat)) (e : g = g0)
set_option maxHeartbeats 16000000 in
set_option maxRecDepth 10000 in
theorem once23_ev {h : Hp} {u v w : Value} {ks ds ns : List Int} (hu : IRow h u ks) (hv : IRow h v ds) (hw : IRow h w ns) :
    EvA Try.prog 4 [u, v, w] (fun r _ => r = .bool true) h := by
  refine EvA.body Try.func4 rfl (by kernel_rfl) (by simp) ?_
  apply Run.ok
  have tu := ILen hu
  have tw := ILen hw
  simp
  refine after_call (works23_ev _) ?_
  rintro r g ⟨e, rfl⟩
  subst e
  by_cases c0 : 200 < ks.length
  · have c0' : (200 : Int) < ks.length := by omega
    simp [tu, c0']
    refine after_call (works23_ev _) ?_
    rintro r g ⟨e, rfl⟩
    subst e
    simp
  have c0' : ¬ (200 : Int) < ks.length := by omega
  by_cases c1 : 100 < ns.length
  · have c1' : (100 : Int) < ns.length := by omega
    simp [tu, tw, c0', c1']
    refine after_call (works23_ev _) ?_
    rintro r g ⟨e, rfl⟩
    subst e
    simp
  have c1' : ¬ (100 : Int) < ns.length := by omega
  simp [tu, tw, c0', c1']
  refine after_call (newW_ev _) ?_
  rintro r g0 ⟨rfl, m0, s0⟩
  have hlt0 := m0.lt
  have sn : Same g0 (g0 ++ [Blk.map []]) := Same.new _
  simp
  refine WpA.loop (OnceI1 g (g.length + 1) g0.length u v w ks ds) (k := ks.length) ⟨0, [], [], by simp, by omega, by simp, by simp, by simp, by simp, by simp, by simp, ⟨⟨g.length, .slice none 0 0, [], [], m0.same sn, WOk.nil, by simp, by omega, by omega, fun j hj => (by obtain ⟨a, n, c, he, _⟩ := hj; cases he)⟩, by simp [MapAt], WOk.nil.aok, by omega, by simp, s0.trans sn⟩⟩ ?_
  generalize hd : g.length + 1 = d
  generalize hba : g0.length = ba
  clear m0 s0 hlt0 sn hd hba
  rintro z fr gA ⟨i, L, A, rfl, hi, f0, f1, f2, f7, f8, f9, s⟩
  apply Run.ok
  have tuA := ILen (hu.same s.sm)
  have tvA := ILen (hv.same s.sm)
  by_cases c : i < ks.length ∧ i < ds.length
  · have cA : (i : Int) < ks.length := by omega
    have cB : (i : Int) < ds.length := by omega
    have w1 : IntKind.i64.wrap ((i : Int) + 1) = (i : Int) + 1 := wrap_i64 (by omega) (by omega)
    have ka := IIA (hu.same s.sm) c.1
    have kd := ILD (hu.same s.sm) c.1
    have da := IIA (hv.same s.sm) c.2
    have dd := ILD (hv.same s.sm) c.2
    obtain ⟨q, hqe⟩ : ∃ q, ks[i] = q := ⟨_, rfl⟩
    obtain ⟨n, hne⟩ : ∃ n, ds[i] = n := ⟨_, rfl⟩
    rw [hqe] at kd
    rw [hne] at dd
    obtain ⟨⟨b, vv, H, M, m, wo, hl, a1, a2, a3⟩, mp, ao, kb, ln, sm⟩ := s
    simp [f0, f1, f9, tuA, tvA, cA, cB, -load_ptr]
    refine WpA.drawnA [0, 1, 2, 3, 4, 5, 6, 7, 8, 9] [[], [], [], [], [], [], [], [], [], [0, 1, 2, 3, 4, 5, 6, 7, 8]] (by kernel_rfl) (by decide +kernel) (by decide +kernel) ?_
    simp [f0, f1, f7, f9, ka, kd, da, dd, -load_ptr]
    refine after_call (set_ev m wo (by omega) (by omega) q n) ?_
    rintro r g1 ⟨rfl, v1, H1, M1, m1, wo1, u1, n1, l1⟩
    have hkd := m.kd
    have hkb := m.kb
    have hbl := hp_lt mp
    have ab := fun j (hj : inRow vv j) => (m.to.above j hj).1
    have mp1 := mp.upd u1 (fun e => by rcases e with e | e | e; exact a1 e; exact a2 e; exact a3 _ e rfl)
    have sm1 : Same g g1 := Upd.trans sm u1 fun j hj e => by rcases e with e | e | e; omega; omega; have := ab j e; omega
    have ka1 := IIA (hu.same sm1) c.1
    have kd1 := ILD (hu.same sm1) c.1
    have da1 := IIA (hv.same sm1) c.2
    have dd1 := ILD (hv.same sm1) c.2
    rw [hqe] at kd1
    rw [hne] at dd1
    obtain ⟨g2, e2, mp2, u2⟩ := mput mp1 q n
    have a3' : ∀ j, inRow v1 j → j ≠ ba := fun j hj => by
      rcases n1 j hj with e | e
      · exact a3 j e
      · omega
    have m2 := m1.upd u2 (fun e => a1 e.symm) (fun e => a2 e.symm) a3'
    have sm2 : Same g g2 := Upd.trans sm1 u2 fun j hj e => by omega
    have hsl := setL_len q n L
    simp
    refine WpA.drawnA [0, 1, 2, 3, 4, 5, 6, 7, 8, 9] [[], [], [], [], [], [], [], [], [], [0, 1, 2, 3, 4, 5, 6, 7, 8]] (by kernel_rfl) (by decide +kernel) (by decide +kernel) ?_
    simp [f0, f1, f8, f9, ka1, kd1, da1, dd1, e2, w1, -load_ptr, -roundQ_normal, ↓rq]
    exact stop_intro ⟨ks.length - (i + 1), by omega, i + 1, _, _, rfl, by omega, by simp [f0], by simp [f1], by simp [f2], by simp [f7], by simp [f8], by simp, ⟨⟨b, v1, H1, M1, m2, wo1, by omega, a1, a2, a3'⟩, mp2, ao.set q n, kb, by omega, sm2⟩⟩
  · have hA : (if (i : Int) < ks.length then decide ((i : Int) < ds.length) else false) = false := by
      by_cases q1 : (i : Int) < ks.length
      · have : ¬ (i : Int) < ds.length := by omega
        simp [this]
      · simp [q1]
    have s2 : OnceS g d ba 200 L A gA := by
      obtain ⟨⟨b, vv, H, M, m, wo, hl, a1, a2, a3⟩, mp, ao, kb, ln, sm⟩ := s
      exact ⟨⟨b, vv, H, M, m, wo, by omega, a1, a2, a3⟩, mp, ao, kb, by omega, sm⟩
    apply cutW2 (F := fun fr g' => fr 0 = u ∧ fr 2 = w ∧ fr 7 = .pointer (some ⟨d, 0, none⟩) ∧ fr 8 = .map (some ba) ∧ fr 10 = .int .i64 0 ∧ fr 11 = .int .i64 0 ∧ g' = gA)
    · intro key
      by_cases q1 : (i : Int) < ks.length
      · have q2 : ¬ (i : Int) < ds.length := by omega
        simp [f0, f1, f9, tuA, tvA, q1, q2, -load_ptr]
        refine key _ _ ?_
        exact ⟨by simp [f0], by simp [f2], by simp [f7], by simp [f8], by simp, by simp, rfl⟩
      · simp [f0, f9, tuA, q1, -load_ptr]
        refine key _ _ ?_
        exact ⟨by simp [f0], by simp [f2], by simp [f7], by simp [f8], by simp, by simp, rfl⟩
    clear f0 f1 f2 f7 f8 f9 s hA c tuA tvA hi
    rintro fr gx ⟨f0, f2, f7, f8, f10, f11, ex⟩
    subst ex
    refine WpA.loop (OnceI2 g d ba u w ns) (k := ns.length) ⟨0, 0, L, A, by simp, by omega, f0, f2, f7, f8, f10, f11, s2⟩ ?_
    clear f0 f2 f7 f8 f10 f11 s2
    rintro z fr gA ⟨i, now, L, A, rfl, hi, f0, f2, f7, f8, f10, f11, s⟩
    apply Run.ok
    have twA := ILen (hw.same s.sm)
    by_cases c : i < ns.length
    · have c' : (i : Int) < ns.length := by omega
      have na := IIA (hw.same s.sm) c
      have nd := ILD (hw.same s.sm) c
      obtain ⟨nw, hnw⟩ : ∃ n, ns[i] = n := ⟨_, rfl⟩
      rw [hnw] at nd
      apply cutW2 (F := MidF g d ba u w i L A)
      · intro key
        obtain ⟨⟨b, vv, H, M, m, wo, hl, a1, a2, a3⟩, mp, ao, kb, ln, sm⟩ := s
        have hkd := m.kd
        have hkb := m.kb
        have hbl := hp_lt mp
        have ab := fun j (hj : inRow vv j) => (m.to.above j hj).1
        have fin : ∀ (now' : Int) (fr' : Fr) (ov : Value) (g1 : Hp), fr' 0 = u → fr' 2 = w → fr' 7 = .pointer (some ⟨d, 0, none⟩) → fr' 8 = .map (some ba) → fr' 10 = .int .i64 now' → fr' 11 = .int .i64 (i : Nat) → fr' 12 = ov → fr' 13 = .int .i64 0 →
            Acc gA.length g1 1 ov (takeD now' L).length (intL (keysT (takeD now' L))) → DueQ gA g.length d b vv H (dropD now' L) g1 → MidF g d ba u w i L A fr' g1 := by
          intro now' fr' ov g1 q0 q2 q7 q8 q10 q11 q12 q13 O ⟨v1, H1, M1, m1, wo1, u1, n1, l1⟩
          refine ⟨now', ov, gA.length, q0, q2, q7, q8, q10, q11, q12, q13, ⟨⟨b, v1, H1, M1, m1, wo1, by omega, a1, a2, fun j hj => a3 j (n1 j hj)⟩, kb, ?_⟩, mp.upd u1 (fun e => by rcases e with e | e | e; exact a1 e; exact a2 e; exact a3 _ e rfl), O, fun j hj e => by have := (O.above j hj).1; omega⟩
          exact Upd.trans sm u1 fun j hj e => by rcases e with e | e | e; omega; omega; have := ab j e; omega
        by_cases i0 : i = 0
        · have i0' : ((i : Int) == 0) = true := by simp; omega
          simp [f2, f7, f11, twA, c', i0', na, nd, -load_ptr]
          refine after_call (due_ev m wo (by omega) (by omega) nw) ?_
          rintro ov g1 ⟨O, Q⟩
          simp
          refine key _ _ ?_
          exact fin nw _ ov g1 (by simp [f0]) (by simp [f2]) (by simp [f7]) (by simp [f8]) (by simp) (by simp [f11]) (by simp) (by simp) O Q
        · have i0' : ((i : Int) == 0) = false := by simp; omega
          by_cases hgt : now < nw
          · simp [f2, f7, f10, f11, twA, c', i0', na, nd, hgt, -load_ptr]
            refine after_call (due_ev m wo (by omega) (by omega) nw) ?_
            rintro ov g1 ⟨O, Q⟩
            simp
            refine key _ _ ?_
            exact fin nw _ ov g1 (by simp [f0]) (by simp [f2]) (by simp [f7]) (by simp [f8]) (by simp) (by simp [f11]) (by simp) (by simp) O Q
          · simp [f2, f7, f10, f11, twA, c', i0', na, nd, hgt, -load_ptr]
            refine after_call (due_ev m wo (by omega) (by omega) now) ?_
            rintro ov g1 ⟨O, Q⟩
            simp
            refine key _ _ ?_
            exact fin now _ ov g1 (by simp [f0]) (by simp [f2]) (by simp [f7]) (by simp [f8]) (by simp [f10]) (by simp [f11]) (by simp) (by simp) O Q
      have ao := s.aok
      have ln := s.len
      clear f0 f2 f7 f8 f10 f11 s twA na nd hnw
      rintro fr g1 ⟨now, ov, k2, f0, f2, f7, f8, f10, f11, f12, f13, s, mp, O, no⟩
      have htl := takeD_len now L
      have hmem := takeD_le (now := now) (L := L)
      have hsorted : (takeD now L).Pairwise Th.lt := ao.srt.sublist (List.takeWhile_sublist _)
      have htd := take_drop now L
      have hgr := dropD_all (now := now) ao.srt
      have hdl : (dropD now L).length ≤ L.length := (List.dropWhile_sublist _).length_le
      obtain ⟨T, hT⟩ : ∃ T, T = takeD now L := ⟨_, rfl⟩
      obtain ⟨R, hR⟩ : ∃ R, R = dropD now L := ⟨_, rfl⟩
      rw [← hT] at htl hmem hsorted htd O
      rw [← hR] at hgr htd s hdl
      clear hT hR
      have ol := NLen O
      have w1 : IntKind.i64.wrap ((i : Int) + 1) = (i : Int) + 1 := wrap_i64 (by omega) (by omega)
      -- each is there, and due
      refine WpA.loop (LoopA u w ov d ba now i T g1) (k := T.length) ⟨0, by simp, by omega, f0, f2, f7, f8, f10, f11, f12, f13, rfl⟩ ?_
      clear f0 f2 f7 f8 f10 f11 f12 f13
      rintro z fr gx ⟨k, rfl, hk, f0, f2, f7, f8, f10, f11, f12, f13, ex⟩
      subst ex
      apply Run.ok
      by_cases ck : k < T.length
      · have ck' : (k : Int) < T.length := by omega
        have wk : IntKind.i64.wrap ((k : Int) + 1) = (k : Int) + 1 := wrap_i64 (by omega) (by omega)
        have ia := NIA O ck
        have ld := NLD O ck
        rw [outAt ck] at ld
        have hx := hmem (nth T k) (nth_mem ck)
        have hq := ao.get hx.2
        have lo := mlook2 mp (nth T k).key
        rw [hq] at lo
        have hnl : ¬ now < (nth T k).due := by omega
        simp [f8, f10, f12, f13, ol, ck', ia, ld, lo, hnl, wk, -load_ptr, -roundQ_normal, ↓rq]
        exact stop_intro ⟨T.length - (k + 1), by omega, k + 1, rfl, by omega, by simp [f0], by simp [f2], by simp [f7], by simp [f8], by simp [f10], by simp [f11], by simp [f12], by simp, rfl⟩
      have ck' : ¬ (k : Int) < T.length := by omega
      simp [f12, f13, ol, ck']
      clear ck ck' hk
      -- by rising times
      refine WpA.loop (LoopB u w ov d ba now i T gx) (k := T.length) ⟨0, 0, by simp, by omega, by simp [f0], by simp [f2], by simp [f7], by simp [f8], by simp [f10], by simp [f11], by simp [f12], by simp, by simp, fun q hq => by omega, rfl⟩ ?_
      clear f0 f2 f7 f8 f10 f11 f12 f13
      rintro z fr gy ⟨k, last, rfl, hk, f0, f2, f7, f8, f10, f11, f12, f16, f17, hla, ey⟩
      subst ey
      apply Run.ok
      by_cases ck : k < T.length
      · have ck' : (k : Int) < T.length := by omega
        have wk : IntKind.i64.wrap ((k : Int) + 1) = (k : Int) + 1 := wrap_i64 (by omega) (by omega)
        have ia := NIA O ck
        have ld := NLD O ck
        rw [outAt ck] at ld
        have hx := hmem (nth T k) (nth_mem ck)
        have hq := ao.get hx.2
        have lo := mlook mp (nth T k).key
        rw [hq] at lo
        simp only [Option.getD_some] at lo
        simp [f8, f12, f17, ol, ck', ia, ld, lo, -load_ptr]
        refine WpA.drawnT [0, 1, 2, 3, 4, 5, 6, 7, 8, 9, 10, 11, 12, 13, 14, 15, 16, 17, 18, 19, 20, 21, 22, 23] [] [[], [0], [0, 1], [0, 1, 2], [0, 1, 2], [0, 1, 2, 3, 4], [0, 1, 2, 3, 4, 5], [0, 1, 2, 3, 4, 5, 6], [0, 1, 2, 3, 4, 5, 6], [0, 1, 2, 3, 4, 5, 6, 7, 8], [0, 1, 2, 3, 4, 5, 6, 7, 8, 9], [0, 1, 2, 3, 4, 5, 6, 7, 8, 9, 10], [0, 1, 2, 3, 4, 5, 6, 7, 8, 9, 10], [0, 1, 2, 3, 4, 5, 6, 7, 8, 9, 10, 11, 12], [0, 1, 2, 3, 4, 5, 6, 7, 8, 9, 10, 11, 12, 13], [0, 1, 2, 3, 4, 5, 6, 7, 8, 9, 10], [0, 1, 2, 3, 4, 5, 6, 7, 8, 9, 10], [0, 1, 2, 3, 4, 5, 6, 7, 8, 9, 10, 16], [0, 1, 2, 3, 4, 5, 6, 7, 8, 9, 10, 15, 16, 17], [0, 1, 2, 3, 4, 5, 6, 7, 8, 9, 10, 15, 16, 17, 18], [0, 1, 2, 3, 4, 5, 6, 7, 8, 9, 10, 11, 12, 13, 14, 15, 16, 17, 18, 19], [0, 1, 2, 3, 4, 5, 6, 7, 8, 9, 10, 11, 12, 13, 14, 15, 16, 17, 18, 19, 20], [0, 1, 2, 3, 4, 5, 6, 7, 8, 9, 10, 11, 12, 13, 14, 15, 16, 17, 18, 19, 20, 21], [0, 1, 2, 3, 4, 5, 6, 7, 8, 9, 10, 11, 12, 13, 14, 15, 16, 17, 18, 19, 20, 21, 22]] (by kernel_rfl) (by decide +kernel) (by decide +kernel) (by decide +kernel) ?_
        by_cases k0 : 0 < k
        · obtain ⟨q, rfl⟩ : ∃ q, k = q + 1 := ⟨k - 1, by omega⟩
          have hl := hla q rfl
          subst hl
          have cq : q < T.length := by omega
          have wq : IntKind.i64.wrap (q : Int) = q := wrap_i64 (by omega) (by omega)
          have ja := NIA O cq
          have jd := NLD O cq
          rw [outAt cq] at jd
          have hlt : Th.lt (nth T q) (nth T (q + 1)) := by
            rw [nth_get cq, nth_get ck]
            exact List.pairwise_iff_getElem.1 hsorted q (q + 1) cq ck (by omega)
          unfold Th.lt at hlt
          have f17' : fr 17 = .int .i64 ((q : Int) + 1) := by simpa using f17
          rw [show ((q + 1 : Nat) : Int) = (q : Int) + 1 by omega] at ia wk
          have k0' : (0 : Int) < (q : Int) + 1 := by omega
          have c1 : ¬ (nth T (q + 1)).due < (nth T q).due := by omega
          by_cases e : (nth T (q + 1)).due = (nth T q).due
          · have c2 : ¬ (nth T (q + 1)).key ≤ (nth T q).key := by omega
            simp [f12, f16, f17', k0', wq, ia, ld, ja, jd, e, c2, wk, -load_ptr, -roundQ_normal, ↓rq]
            exact stop_intro ⟨T.length - (q + 1 + 1), by omega, q + 1 + 1, (nth T q).due, rfl, by omega, by simp [f0], by simp [f2], by simp [f7], by simp [f8], by simp [f10], by simp [f11], by simp [f12], by simp, by simp, fun q' hq' => e.symm.trans (congrArg (fun j => (nth T j).due) (show q + 1 = q' by omega)), rfl⟩
          · have e' : ((nth T (q + 1)).due == (nth T q).due) = false := by simpa using e
            simp [f16, f17', k0', c1, e', wk, -load_ptr, -roundQ_normal, ↓rq]
            exact stop_intro ⟨T.length - (q + 1 + 1), by omega, q + 1 + 1, (nth T (q + 1)).due, rfl, by omega, by simp [f0], by simp [f2], by simp [f7], by simp [f8], by simp [f10], by simp [f11], by simp [f12], by simp, by simp, fun q' hq' => congrArg (fun j => (nth T j).due) (show q + 1 = q' by omega), rfl⟩
        · simp [f17, k0, wk, -load_ptr, -roundQ_normal, ↓rq]
          exact stop_intro ⟨T.length - (k + 1), by omega, k + 1, (nth T k).due, rfl, by omega, by simp [f0], by simp [f2], by simp [f7], by simp [f8], by simp [f10], by simp [f11], by simp [f12], by simp, by simp, fun q' hq' => congrArg (fun j => (nth T j).due) (show k = q' by omega), rfl⟩
      have ck' : ¬ (k : Int) < T.length := by omega
      simp [f12, f17, ol, ck']
      clear ck ck' hk hla
      -- they go
      refine WpA.loop (LoopC u w ov d ba now i k2 T R g) (k := T.length) ⟨0, A, by simp, by omega, by simp [f0], by simp [f2], by simp [f7], by simp [f8], by simp [f10], by simp [f11], by simp [f12], by simp, s, mp, O, by rw [List.drop_zero, htd]; exact ao⟩ ?_
      clear f0 f2 f7 f8 f10 f11 f12 f16 f17 s mp O ao ol
      rintro z fr gz ⟨k, A2, rfl, hk, f0, f2, f7, f8, f10, f11, f12, f19, s, mp, O, ao2⟩
      apply Run.ok
      have ol := NLen O
      by_cases ck : k < T.length
      · have ck' : (k : Int) < T.length := by omega
        have wk : IntKind.i64.wrap ((k : Int) + 1) = (k : Int) + 1 := wrap_i64 (by omega) (by omega)
        have ia := NIA O ck
        have ld := NLD O ck
        rw [outAt ck] at ld
        have hdr : T.drop k = nth T k :: T.drop (k + 1) := by rw [nth_get ck]; exact List.drop_eq_getElem_cons ck
        rw [hdr, List.cons_append] at ao2
        have hq : lk (nth T k).key A2 = some (nth T k).due := ao2.get (by simp)
        obtain ⟨g3, e3, mp3, u3⟩ := mdel mp hq
        obtain ⟨⟨b, vv, H, M, m, wo, hl, a1, a2, a3⟩, kb, sm⟩ := s
        have s3 : MidS g d ba R g3 := ⟨⟨b, vv, H, M, m.upd u3 (fun e => a1 e.symm) (fun e => a2 e.symm) a3, wo, hl, a1, a2, a3⟩, kb, Upd.trans sm u3 fun j hj e => by omega⟩
        simp [f8, f12, f19, ol, ck', ia, ld, e3, wk, -load_ptr, -roundQ_normal, ↓rq]
        exact stop_intro ⟨T.length - (k + 1), by omega, k + 1, _, rfl, by omega, by simp [f0], by simp [f2], by simp [f7], by simp [f8], by simp [f10], by simp [f11], by simp [f12], by simp, s3, mp3, O.upd u3 no, ao2.take⟩
      have ck' : ¬ (k : Int) < T.length := by omega
      rw [List.drop_of_length_le (by omega), List.nil_append] at ao2
      obtain ⟨⟨b, vv, H, M, m, wo, hl, a1, a2, a3⟩, kb, sm⟩ := s
      have hkd := m.kd
      have ab := fun j (hj : inRow vv j) => (m.to.above j hj).1
      have hbl := hp_lt mp
      simp [f7, f12, f19, ol, ck']
      refine after_call (nextW_ev m wo (by omega)) ?_
      rintro r g4 ⟨rfl, v4, H4, m4, wo4, u4, n4, l4⟩
      have mp4 := mp.upd u4 (fun e => by rcases e with e | e; exact a1 e; exact a3 _ e rfl)
      have sm4 : Same g g4 := Upd.trans sm u4 fun j hj e => by rcases e with e | e; omega; have := ab j e; omega
      have ms := msize mp4
      rw [ao2.len] at ms
      have tuA := ILen (hu.same sm4)
      have s4 : OnceS g d ba 200 R A2 g4 := ⟨⟨b, v4, H4, M, m4, wo4, by omega, a1, a2, fun j hj => a3 j (n4 j hj)⟩, mp4, ao2, kb, by omega, sm4⟩
      apply cutW2 (F := fun fr g' => fr 0 = u ∧ fr 2 = w ∧ fr 7 = .pointer (some ⟨d, 0, none⟩) ∧ fr 8 = .map (some ba) ∧ fr 10 = .int .i64 now ∧ fr 11 = .int .i64 (i : Nat) ∧ fr 22 = .int .i64 0 ∧ g' = g4)
      · intro key
        cases hRc : R with
        | nil =>
          rw [hRc] at ms wo4
          simp [nextV, f7]
          refine after_call (lenW_ev m4 wo4) ?_
          rintro r g5 ⟨e5, rfl⟩
          subst e5
          simp [f8, ms]
          refine key _ _ ?_
          exact ⟨by simp [f0], by simp [f2], by simp [f7], by simp [f8], by simp [f10], by simp [f11], by simp, rfl⟩
        | cons x R' =>
          have hx := hgr x (by rw [hRc]; simp)
          have hxl : ¬ x.due ≤ now := by omega
          rw [hRc] at ms wo4
          simp [nextV, f7, f10, hxl]
          refine after_call (lenW_ev m4 wo4) ?_
          rintro r g5 ⟨e5, rfl⟩
          subst e5
          simp [f8, ms]
          refine key _ _ ?_
          exact ⟨by simp [f0], by simp [f2], by simp [f7], by simp [f8], by simp [f10], by simp [f11], by simp, rfl⟩
      clear f0 f2 f7 f8 f10 f11 f12 f19 ck ck' O ol mp u4 m wo
      rintro fr gw ⟨f0, f2, f7, f8, f10, f11, f22, ew⟩
      subst ew
      -- nothing that is left is due
      refine WpA.loop (LoopD u w d ba now i ks gw) (k := ks.length) ⟨0, by simp, by omega, f0, f2, f7, f8, f10, f11, f22, rfl⟩ ?_
      clear f0 f2 f7 f8 f10 f11 f22
      rintro z fr gv ⟨k, rfl, hk, f0, f2, f7, f8, f10, f11, f22, ev⟩
      subst ev
      apply Run.ok
      by_cases ck : k < ks.length
      · have ck' : (k : Int) < ks.length := by omega
        have wk : IntKind.i64.wrap ((k : Int) + 1) = (k : Int) + 1 := wrap_i64 (by omega) (by omega)
        have ia := IIA (hu.same sm4) ck
        have ld := ILD (hu.same sm4) ck
        generalize ks[k] = q at ld
        have lo := mlook2 mp4 q
        cases hz : lk q A2 with
        | none =>
          rw [hz] at lo
          simp [f0, f8, f22, tuA, ck', ia, ld, lo, wk, -load_ptr, -roundQ_normal, ↓rq]
          exact stop_intro ⟨ks.length - (k + 1), by omega, k + 1, rfl, by omega, by simp [f0], by simp [f2], by simp [f7], by simp [f8], by simp [f10], by simp [f11], by simp, rfl⟩
        | some n =>
          have hx := hgr _ ((ao2.map q n).1 hz)
          simp only at hx
          have hxl : ¬ n ≤ now := by omega
          rw [hz] at lo
          simp [f0, f8, f10, f22, tuA, ck', ia, ld, lo, hxl, wk, -load_ptr, -roundQ_normal, ↓rq]
          exact stop_intro ⟨ks.length - (k + 1), by omega, k + 1, rfl, by omega, by simp [f0], by simp [f2], by simp [f7], by simp [f8], by simp [f10], by simp [f11], by simp, rfl⟩
      have ck' : ¬ (k : Int) < ks.length := by omega
      simp [f0, f11, f22, tuA, ck', w1, -roundQ_normal, ↓rq]
      exact stop_intro ⟨ns.length - (i + 1), by omega, i + 1, now, R, A2, rfl, by omega, by simp [f0], by simp [f2], by simp [f7], by simp [f8], by simp [f10], by simp, s4⟩
    · have c' : ¬ (i : Int) < ns.length := by omega
      simp [f2, f11, twA, c']
theorem wheelOnce_ev (h : Hp) (vs : List Value) (dts : List Dt) (hr : RepAll Try.prog h 6 [22, 22, 22] vs dts) : EvA Try.prog 4 vs (fun r _ => r = .bool true) h := by
  obtain ⟨a, vs, d1, ds, rfl, rfl, h1, hr⟩ := hr.cons
  obtain ⟨b, vs, d2, ds, rfl, rfl, h2, hr⟩ := hr.cons
  obtain ⟨c, vs, d3, ds, rfl, rfl, h3, hr⟩ := hr.cons
  rw [hr.nil]
  obtain ⟨k1, x1, x2, x3⟩ := h1.ints (e := 3) (q := .i64) (by simp) (by simp) (by kernel_rfl)
  obtain ⟨k2, y1, y2, y3⟩ := h2.ints (e := 3) (q := .i64) (by simp) (by simp) (by kernel_rfl)
  obtain ⟨k3, z1, z2, z3⟩ := h3.ints (e := 3) (q := .i64) (by simp) (by simp) (by kernel_rfl)
  exact once23_ev (x1.row (by simp)) (y1.row (by simp)) (z1.row (by simp))
end Go.Proofs.Ytaahkamnpobofaa
