/- What is a tree of files: the program's Check; no condition. -/
import Derived.Test.YtbamofeocfbjbaaFilesF
import Derived.Test.YtbamofeocfbjbaaMaps
namespace Go.Proofs.Ytbamofeocfbjbaa
open Go.Ab Go.Glob
def firstE : List Fl → Nat
  | [] => 0
  | f :: l => if fileE f = 0 then firstE l else fileE f
theorem firstE_app {a : List Fl} (b : List Fl) (h : ∀ f ∈ a, fileE f = 0) : firstE (a ++ b) = firstE b := by
  induction a with
  | nil => rfl
  | cons f a ih =>
    rw [List.cons_append, firstE, if_pos (h f (by simp))]
    exact ih fun x hx => h x (by simp [hx])
theorem firstE_hit {l : List Fl} {i : Nat} (c : i < l.length) (h : ∀ f ∈ l.take i, fileE f = 0) (hx : fileE l[i] ≠ 0) : firstE l = fileE l[i] := by
  have e : l = l.take i ++ l[i] :: l.drop (i + 1) := by rw [← List.drop_eq_getElem_cons c, List.take_append_drop]
  conv => lhs; rw [e]
  rw [firstE_app _ h, firstE, if_neg hx]
theorem firstE_none {l : List Fl} (h : ∀ f ∈ l, fileE f = 0) : firstE l = 0 := by
  have := firstE_app (a := l) [] h
  rw [List.append_nil] at this
  rw [this]; rfl
def less (a b : Fl) : Bool := Op.bytesLess a.1 b.1
def Rises (l : List Fl) : Prop := ∀ j, j + 1 < l.length → less (l.getD j ([], [])) (l.getD (j + 1) ([], [])) = true
open Classical in
noncomputable def checkE (l : List Fl) : Nat := if firstE l = 0 then (if Rises l then (if stB l then 50 else fullE l) else 4) else firstE l
theorem bl_irrefl (x : Bs) : Op.bytesLess x x = false := by
  induction x with
  | nil => rfl
  | cons c x ih =>
    simp only [Op.bytesLess, ih, Bool.and_false, Bool.or_false, decide_eq_false_iff_not]
    exact UInt8.lt_irrefl c
theorem bl_trans : ∀ (x y z : Bs), Op.bytesLess x y = true → Op.bytesLess y z = true → Op.bytesLess x z = true := by
  intro x
  induction x with
  | nil =>
    intro y z h1 h2
    cases z with
    | nil => cases y <;> simp [Op.bytesLess] at h2
    | cons c z => rfl
  | cons a x ih =>
    intro y z h1 h2
    cases y with
    | nil => simp [Op.bytesLess] at h1
    | cons b y =>
      cases z with
      | nil => simp [Op.bytesLess] at h2
      | cons c z =>
        simp only [Op.bytesLess, Bool.or_eq_true, decide_eq_true_eq, Bool.and_eq_true, beq_iff_eq] at h1 h2 ⊢
        rcases h1 with h1 | ⟨rfl, h1⟩
        · rcases h2 with h2 | ⟨rfl, h2⟩
          · exact .inl (UInt8.lt_trans h1 h2)
          · exact .inl h1
        · rcases h2 with h2 | ⟨rfl, h2⟩
          · exact .inl h2
          · exact .inr ⟨rfl, ih y z h1 h2⟩
theorem Rises.lt {l : List Fl} (r : Rises l) : ∀ (d k : Nat), k + d + 1 < l.length → less (l.getD k ([], [])) (l.getD (k + d + 1) ([], [])) = true := by
  intro d
  induction d with
  | zero => intro k h; exact r k h
  | succ d ih =>
    intro k h
    exact bl_trans _ _ _ (ih k (by omega)) (r (k + d + 1) (by omega))
theorem getD_get {l : List Fl} {i : Nat} (c : i < l.length) : l.getD i ([], []) = l[i] := by rw [List.getD_eq_getElem?_getD, List.getElem?_eq_getElem c]; rfl
theorem Rises.ne {l : List Fl} (r : Rises l) {i k : Nat} (hk : k < i) (hi : i < l.length) : l[i].1 ≠ l[k].1 := by
  intro e
  have := r.lt (i - k - 1) k (by omega)
  rw [show k + (i - k - 1) + 1 = i by omega, getD_get hi, getD_get (by omega), less, e, bl_irrefl] at this
  cases this
def cntP (l : List Fl) (q : Bs) : Nat := (l.filter fun f => decide (f.1 = q)).length
theorem cntP_next {l : List Fl} {i : Nat} (c : i < l.length) (q : Bs) : cntP (l.take (i + 1)) q = cntP (l.take i) q + (if l[i].1 = q then 1 else 0) := by
  rw [take_next c, cntP, List.filter_append, List.length_append]
  congr 1
  by_cases h : l[i].1 = q <;> simp [h]
theorem cntP_le (l : List Fl) (q : Bs) : cntP l q ≤ l.length := List.length_filter_le _ _
theorem cntP_pos {l : List Fl} {q : Bs} : 0 < cntP l q ↔ ∃ g ∈ l, g.1 = q := by
  unfold cntP
  rw [List.length_pos_iff_exists_mem]
  simp
/-- the counts of paths in a map -/
def Counts (ms : List (Bs × Value)) (n : Bs → Nat) : Prop := ∀ q, lkp q ms = if n q = 0 then none else some (.int .i64 (n q : Nat))
theorem Counts.get {ms : List (Bs × Value)} {n : Bs → Nat} (c : Counts ms n) (q : Bs) : (lkp q ms).getD (.int .i64 0) = .int .i64 (n q : Nat) := by
  rw [c q]
  by_cases h : n q = 0 <;> simp [h]
section
variable {h g : Hp} {v w : Value} {l m : List Fl} {i : Nat}
theorem newF (g : Hp) (a b : Value) : loadA Try.prog 57 (.pointer (some ⟨g.length, 0, none⟩)) (g ++ [Blk.cells [a, b] false none]) = some (.agg #[a, b]) := by
  simp [loadA]
set_option maxRecDepth 100000 in
set_option maxHeartbeats 4000000 in
theorem check17_ev (hv : FRow h v l) (hs : Small l) : EvA Try.prog 33 [v] (fun r h' => h' = h ∧ r = .int .i64 (checkE l : Nat)) h := by
  refine EvA.forget (Q := fun r => r = .int .i64 (checkE l : Nat)) ?_
  refine EvA.body Try.func33 rfl (by kernel_rfl) (by simp) ?_
  apply Run.ok
  have wl := FLen hv
  have hl := hs.1
  simp [wl]
  refine WpA.loop (fun z fr g => ∃ i, z = l.length - i ∧ i ≤ l.length ∧ fr 0 = v ∧ fr 13 = v ∧ fr 14 = .int .i64 (l.length : Nat) ∧ fr 15 = .int .i64 (i : Nat) ∧ Same h g ∧ ∀ f ∈ l.take i, fileE f = 0)
    (k := l.length) ⟨0, by simp, by omega, by simp, by simp, by simp, by simp, Same.refl, by simp⟩ ?_
  rintro z fr g ⟨i, rfl, hi, f0, f13, f14, f15, s, hp⟩
  apply Run.ok
  by_cases c : i < l.length
  · have c' : (i : Int) < l.length := by omega
    have w1 : IntKind.i64.wrap ((i : Int) + 1) = (i : Int) + 1 := wrap_i64 (by omega) (by omega)
    have ia := FIA (hv.same s) c
    have ag := FAG (hv.same s) c
    have htk := take_next c
    have nf := newF g (.string (bs l[i].1)) (.string (bs l[i].2))
    have hit := firstE_hit c hp
    simp [f13, f14, f15, c', ia, ag, nf, spl, -load_ptr]
    refine after_call (file_ev l[i] _) ?_
    rintro r h2 ⟨rfl, rfl⟩
    by_cases hx : fileE l[i] = 0
    · simp [hx, f15, w1, -roundQ_normal, ↓rq]
      refine stop_intro ⟨l.length - (i + 1), by omega, i + 1, rfl, by omega, by simp [f0], by simp [f13], by simp [f14], by simp, s.trans (Same.new _), fun f hf => ?_⟩
      rw [htk] at hf
      rcases List.mem_append.1 hf with h1 | h1
      · exact hp f h1
      · simp only [List.mem_singleton] at h1; subst h1; exact hx
    · have hx' : (((fileE l[i] : Nat) : Int) != 0) = true := by simp; omega
      have hc : checkE l = fileE l[i] := by unfold checkE; rw [hit hx, if_neg hx]
      simp [hx', hc, flat, ground]
      exact same_tail (s.trans (Same.new _))
  · have c' : ¬ (i : Int) < l.length := by omega
    rw [List.take_of_length_le (by omega)] at hp
    have hfirst := firstE_none hp
    clear hp
    simp [f14, f15, c']
    refine WpA.loop (fun z fr g => ∃ k, z = l.length - k ∧ k ≤ l.length ∧ fr 0 = v ∧ fr 6 = .int .i64 ((k : Int) + 1) ∧ Same h g ∧ ∀ j, j < k → j + 1 < l.length → less (l.getD j ([], [])) (l.getD (j + 1) ([], [])) = true)
      (k := l.length) ⟨0, by simp, by omega, by simp [f0], by simp, s, fun j hj => by omega⟩ ?_
    clear f0 f13 f14 f15 s c c' hi
    rintro z fr g ⟨k, rfl, hk, f0, f6, s, hr⟩
    apply Run.ok
    have wl := FLen (hv.same s)
    by_cases c : k + 1 < l.length
    · have c' : (k : Int) + 1 < l.length := by omega
      have w1 : IntKind.i64.wrap ((k : Int) + 1 + 1) = (k : Int) + 1 + 1 := wrap_i64 (by omega) (by omega)
      have w0 : IntKind.i64.wrap (k : Int) = (k : Int) := wrap_i64 (by omega) (by omega)
      have c0 : k < l.length := by omega
      have ia := FIA (hv.same s) c0
      have p0 := FC0 (hv.same s) c0
      have ib : indexAddrA Try.prog 44 v (.int .i64 ((k : Int) + 1)) = some (.pointer (some ⟨rbl v, rof v + (k + 1) * 2, none⟩)) := FIA (hv.same s) c
      have p1 := FC0 (hv.same s) c
      have hb : less (l.getD k ([], [])) (l.getD (k + 1) ([], [])) = Op.bytesLess l[k].1 l[k + 1].1 := by rw [getD_get c0, getD_get c]; rfl
      simp [f0, f6, wl, c', -load_ptr]
      refine WpA.drawnA [0, 1, 2, 3, 4, 5, 6, 7, 8, 9, 10, 11] [] (by kernel_rfl) (by decide +kernel) (by decide +kernel) ?_
      cases hbl : Op.bytesLess l[k].1 l[k + 1].1 with
      | true =>
        simp [f0, f6, w0, w1, ia, ib, p0, p1, toL, hbl, -load_ptr, -roundQ_normal, ↓rq]
        refine stop_intro ⟨l.length - (k + 1), by omega, k + 1, rfl, by omega, by simp [f0], by simp, s, fun j h1 h2 => ?_⟩
        rcases Nat.lt_or_ge j k with h3 | h3
        · exact hr j h3 h2
        · have : j = k := by omega
          rw [this, hb, hbl]
      | false =>
        have hc : checkE l = 4 := by
          unfold checkE
          rw [if_pos hfirst, if_neg]
          intro r
          have := r k c
          rw [hb, hbl] at this
          cases this
        simp [f0, f6, w0, ia, ib, p0, p1, toL, hbl, hc, flat, ground, -load_ptr]
        exact same_tail s
    · have c' : ¬ (k : Int) + 1 < l.length := by omega
      have hrise : Rises l := fun j hj => hr j (by omega) hj
      clear hr
      simp [f0, f6, wl, c', -load_ptr]
      have wl1 := FLen (hv.same (s.trans (Same.new [Blk.map []])))
      simp [wl1]
      obtain ⟨b, hb⟩ : ∃ b, b = g.length := ⟨_, rfl⟩
      have hbh : h.length ≤ b := by rw [hb]; exact s.len
      have m0 : MapAt strK (g ++ [Blk.map []]) b [] := by rw [hb]; simp [MapAt]
      refine WpA.loop (fun z fr g => ∃ i ms, z = l.length - i ∧ i ≤ l.length ∧ fr 0 = v ∧ fr 7 = .map (some b) ∧ fr 44 = v ∧ fr 45 = .int .i64 (l.length : Nat) ∧ fr 46 = .int .i64 (i : Nat) ∧ Same h g ∧ MapAt strK g b ms ∧ Counts ms (cntP (l.take i)))
        (k := l.length) ⟨0, [], by simp, by omega, by simp [f0], by simp [hb], by simp, by simp, by simp, s.trans (Same.new _), m0, fun q => by simp [lkp, cntP]⟩ ?_
      clear f0 f6 s c c' wl wl1 m0 hb hk
      rintro z fr g ⟨i, ms, rfl, hi, f0, f7, f44, f45, f46, s, M, hC⟩
      apply Run.ok
      by_cases c : i < l.length
      · have c' : (i : Int) < l.length := by omega
        have w1 : IntKind.i64.wrap ((i : Int) + 1) = (i : Int) + 1 := wrap_i64 (by omega) (by omega)
        have ia := FIA (hv.same s) c
        have ag := FAG (hv.same s) c
        have hnx := cntP_next c
        generalize l[i] = x at ag hnx
        have n0 := new0 g (.string (bs x.1)) (.string (bs x.2))
        have hcl : cntP (l.take i) x.1 ≤ 1000 := Nat.le_trans (cntP_le _ _) (by simp; omega)
        have sn : Same g (g ++ [Blk.cells [.string (bs x.1), .string (bs x.2)] false none]) := Same.new _
        have M2 := M.upd sn (fun h => h)
        have lk := M2.look (P := Try.prog) (t := 84) (kt := 9) (et := 3) (z := .int .i64 0) (by simp) (by simp [strK]) (by simp) x.1
        rw [hC.get] at lk
        have up := M2.put (P := Try.prog) (t := 84) (kt := 9) (et := 3) (by simp) (by simp [strK]) x.1 (.int .i64 ((cntP (l.take i) x.1 : Nat) + 1 : Int))
        simp only [strK] at lk up
        have M3 := M2.set (putM x.1 (.int .i64 ((cntP (l.take i) x.1 : Nat) + 1 : Int)) ms)
        have s3 : Same h ((g ++ [Blk.cells [.string (bs x.1), .string (bs x.2)] false none]).set b (.map ((putM x.1 (.int .i64 ((cntP (l.take i) x.1 : Nat) + 1 : Int)) ms).map (cellM strK)))) :=
          Upd.none (Upd.trans (S := (· = b)) ((s.trans sn).mono fun _ _ h => h.elim) (Upd.set (S := (· = b)) rfl _) fun _ _ h => h) fun k hk e => by omega
        generalize hG : (g ++ [Blk.cells [.string (bs x.1), .string (bs x.2)] false none]).set b (.map ((putM x.1 (.int .i64 ((cntP (l.take i) x.1 : Nat) + 1 : Int)) ms).map (cellM strK))) = G at M3 s3
        have up : mapUpdateA Try.prog 84 (.map (some b)) (.string (bs x.1)) (.int .i64 ((cntP (l.take i) x.1 : Nat) + 1 : Int)) (g ++ [Blk.cells [.string (bs x.1), .string (bs x.2)] false none]) = some G := by rw [← hG]; exact up
        have w2 : IntKind.i64.wrap (((cntP (l.take i) x.1 : Nat) : Int) + 1) = ((cntP (l.take i) x.1 : Nat) : Int) + 1 := wrap_i64 (by omega) (by omega)
        simp [f7, f44, f45, f46, c', ia, ag, n0, lk, up, w1, w2, spl, -load_ptr, -roundQ_normal, ↓rq]
        refine stop_intro ⟨l.length - (i + 1), by omega, i + 1, _, rfl, by omega, by simp [f0], by simp [f7], by simp [f44], by simp [f45], by simp, s3, M3, fun q => ?_⟩
        rw [lkp_put, hnx q]
        by_cases hq : q = x.1
        · subst hq; simp
        · have hq' : ¬ x.1 = q := fun e => hq e.symm
          rw [if_neg hq, hC q]
          simp [hq']
      · have c' : ¬ (i : Int) < l.length := by omega
        rw [List.take_of_length_le (by omega)] at hC
        have wl := FLen (hv.same s)
        simp [f0, f45, f46, wl, c', -load_ptr]
        refine WpA.loop (fun z fr g => ∃ i, z = l.length - i ∧ i ≤ l.length ∧ fr 0 = v ∧ fr 7 = .map (some b) ∧ fr 56 = v ∧ fr 57 = .int .i64 (l.length : Nat) ∧ fr 58 = .int .i64 (i : Nat) ∧ Same h g ∧ MapAt strK g b ms ∧ ∀ f ∈ l.take i, ∀ y ∈ l, underB f.1 y.1 = false)
          (k := l.length) ⟨0, by simp, by omega, by simp [f0], by simp [f7], by simp, by simp, by simp, s, M, by simp⟩ ?_
        clear f0 f7 f44 f45 f46 s c c' wl M hi
        rintro z fr g ⟨i, rfl, hi, f0, f7, f56, f57, f58, s, M, hU⟩
        apply Run.ok
        by_cases c : i < l.length
        · have c' : (i : Int) < l.length := by omega
          have w1 : IntKind.i64.wrap ((i : Int) + 1) = (i : Int) + 1 := wrap_i64 (by omega) (by omega)
          have ia := FIA (hv.same s) c
          have ag := FAG (hv.same s) c
          have htk := take_next c
          have hmem : l[i] ∈ l := List.getElem_mem _
          have hx := hs.2 l[i] hmem
          generalize l[i] = x at ag htk hmem hx
          have n0 := new0 g (.string (bs x.1)) (.string (bs x.2))
          have sn : Same g (g ++ [Blk.cells [.string (bs x.1), .string (bs x.2)] false none]) := Same.new _
          have M2 := M.upd sn (fun h => h)
          have s2 := s.trans sn
          simp [f56, f57, f58, c', ia, ag, n0, spl, -load_ptr]
          generalize g ++ [Blk.cells [Value.string (bs x.1), .string (bs x.2)] false none] = g2 at n0 M2 s2 ⊢
          generalize g.length = d at n0 ⊢
          refine WpA.loop (fun z fr g => ∃ j, z = x.1.length - j ∧ j ≤ x.1.length ∧ fr 0 = v ∧ fr 7 = .map (some b) ∧ fr 56 = v ∧ fr 57 = .int .i64 (l.length : Nat) ∧ fr 58 = .int .i64 (i : Nat) ∧ fr 11 = .pointer (some ⟨d, 0, none⟩) ∧ fr 64 = .int .i64 (x.1.length : Nat) ∧ fr 65 = .int .i64 (j : Nat) ∧ g = g2 ∧ ∀ j', j' < j → ¬ (x.1.getD j' 0 = 47 ∧ 0 < cntP l (x.1.take j')))
            (k := x.1.length) ⟨0, by simp, by omega, by simp [f0], by simp [f7], by simp [f56], by simp [f57], by simp [f58], by simp, by simp, by simp, rfl, fun j' h => by omega⟩ ?_
          clear f0 f7 f56 f57 f58 ia ag
          rintro z fr g ⟨j, rfl, hj, f0, f7, f56, f57, f58, f11, f64, f65, rfl, hJ⟩
          apply Run.ok
          by_cases e : j < x.1.length
          · have e' : (j : Int) < x.1.length := by omega
            have w2 : IntKind.i64.wrap ((j : Int) + 1) = (j : Int) + 1 := wrap_i64 (by omega) (by omega)
            have ej : j ≤ x.1.length := by omega
            have u47 : ∀ c : UInt8, (((c.toNat : Nat) : Int) == 47) = decide (c = 47) := fun c => u8_beq c 47 47 rfl
            have hgd : x.1.getD j 0 = x.1[j] := by rw [List.getD_eq_getElem?_getD, List.getElem?_eq_getElem e]; rfl
            by_cases h47 : x.1[j] = 47
            · have lk := M2.look (P := Try.prog) (t := 84) (kt := 9) (et := 3) (z := .int .i64 0) (by simp) (by simp [strK]) (by simp) (x.1.take j)
              rw [hC.get] at lk
              simp only [strK] at lk
              by_cases hcn : 0 < cntP l (x.1.take j)
              · have hcn' : (0 : Int) < (cntP l (x.1.take j) : Nat) := by omega
                have hc : checkE l = 50 := by
                  unfold checkE
                  rw [if_pos hfirst, if_pos hrise, if_pos]
                  obtain ⟨y, y1, y2⟩ := cntP_pos.1 hcn
                  simp only [stB, List.any_eq_true]
                  refine ⟨x, hmem, y, y1, ?_⟩
                  have hyl : y.1.length = j := by rw [y2]; simp; omega
                  simp only [underB, hyl, Bool.and_eq_true, decide_eq_true_eq]
                  exact ⟨⟨e, y2.symm⟩, by rw [hgd, h47]⟩
                simp [f7, f11, f64, f65, n0, e, e', ej, h47, bs_extract, lk, hcn, hc, flat, ground, -load_ptr]
                exact same_tail s2
              · have hcn' : ¬ (0 : Int) < (cntP l (x.1.take j) : Nat) := by omega
                simp [f7, f11, f64, f65, n0, e, e', ej, h47, bs_extract, lk, hcn, w2, -load_ptr, -roundQ_normal, ↓rq]
                refine stop_intro ⟨x.1.length - (j + 1), by omega, j + 1, rfl, by omega, by simp [f0], by simp [f7], by simp [f56], by simp [f57], by simp [f58], by simp [f11], by simp [f64], by simp, rfl, fun j' h1 => ?_⟩
                rcases Nat.lt_or_ge j' j with h2 | h2
                · exact hJ j' h2
                · have : j' = j := by omega
                  subst this
                  exact fun h3 => hcn h3.2
            · simp [f11, f64, f65, n0, e, e', h47, u47, w2, -load_ptr, -roundQ_normal, ↓rq]
              refine stop_intro ⟨x.1.length - (j + 1), by omega, j + 1, rfl, by omega, by simp [f0], by simp [f7], by simp [f56], by simp [f57], by simp [f58], by simp [f11], by simp [f64], by simp, rfl, fun j' h1 => ?_⟩
              rcases Nat.lt_or_ge j' j with h2 | h2
              · exact hJ j' h2
              · have : j' = j := by omega
                subst this
                exact fun h3 => h47 (hgd ▸ h3.1)
          · have e' : ¬ (j : Int) < x.1.length := by omega
            simp [f58, f64, f65, e', w1, -load_ptr, -roundQ_normal, ↓rq]
            refine stop_intro ⟨l.length - (i + 1), by omega, i + 1, rfl, by omega, by simp [f0], by simp [f7], by simp [f56], by simp [f57], by simp, s2, M2, fun f hf y hy => ?_⟩
            rw [htk] at hf
            rcases List.mem_append.1 hf with h1 | h1
            · exact hU f h1 y hy
            · simp only [List.mem_singleton] at h1
              subst h1
              cases hu : underB f.1 y.1 with
              | false => rfl
              | true =>
                simp only [underB, Bool.and_eq_true, decide_eq_true_eq] at hu
                exact absurd ⟨hu.2, cntP_pos.2 ⟨y, hy, hu.1.2.symm⟩⟩ (hJ y.1.length (by omega))
        · have c' : ¬ (i : Int) < l.length := by omega
          rw [List.take_of_length_le (by omega)] at hU
          have hst : stB l = false := by
            rw [stB, List.any_eq_false]
            intro f hf h2
            obtain ⟨y, hy, h3⟩ := List.any_eq_true.1 h2
            rw [hU f hf y hy] at h3
            cases h3
          have hc : checkE l = fullE l := by
            unfold checkE
            rw [if_pos hfirst, if_pos hrise, hst]
            rfl
          simp [f0, f57, f58, c', -load_ptr]
          refine after_call (full_ev (hv.same s) hs) ?_
          rintro r h2 ⟨rfl, rfl⟩
          simp [hc, flat, ground]
          exact same_tail s
end
end Go.Proofs.Ytbamofeocfbjbaa
