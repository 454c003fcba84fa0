/- Jobs, plainly: how they stand, how they are settled, and what every act keeps; no condition. -/
import Derived.Test.YtklhioaokogpdaaAbF
namespace Go.Proofs.Ytklhioaokogpdaa
open Go.Ab
/-- what a job asks for; nv is where its needs lie -/
structure Jb where
  nv : Value
  needs : List Nat
  tries : Int
  limit : Int
  manual : Bool
/-- how a job stands -/
structure St where
  s : Nat
  tried : Int
  badge : Int
  since : Int
  code : Int
  played : Bool
  deriving DecidableEq
def Jb.no : Jb := ⟨.slice none 0 0, [], 0, 0, false⟩
/-- the same, in another state -/
def St.to (x : St) (s : Nat) : St := ⟨s, x.tried, x.badge, x.since, x.code, x.played⟩
def St.no : St := ⟨1, 0, 0, 0, 0, false⟩
def endS (s : Nat) : Bool := decide (5 ≤ s) && decide (s ≤ 11)
def stA (l : List St) (n : Nat) : Nat := (l.getD n St.no).s
def passA (y : Jb) (l : List St) : Bool := y.needs.all fun n => decide (stA l n = 5)
def brokA (y : Jb) (l : List St) : Bool := y.needs.any fun n => decide (stA l n ≠ 5) && endS (stA l n)
def nextA (y : Jb) (l : List St) (played : Bool) : Nat := if brokA y l then 10 else if passA y l then (if y.manual && !played then 2 else 3) else 1
def setS (l : List St) (i s : Nat) : List St := l.set i ((l.getD i St.no).to s)
def set1 (js : List Jb) (l : List St) (i : Nat) : List St := if stA l i = 1 then setS l i (nextA (js.getD i Jb.no) l (l.getD i St.no).played) else l
/-- the first n are settled -/
def setN (js : List Jb) : Nat → List St → List St
  | 0, l => l
  | n + 1, l => set1 js (setN js n l) n
def settle (js : List Jb) (l : List St) : List St := setN js l.length l
theorem set1_len (js : List Jb) (l : List St) (i : Nat) : (set1 js l i).length = l.length := by unfold set1 setS; split <;> simp
theorem setN_len (js : List Jb) (l : List St) (n : Nat) : (setN js n l).length = l.length := by
  induction n with
  | zero => rfl
  | succ n ih => simp only [setN, set1_len, ih]
theorem settle_len (js : List Jb) (l : List St) : (settle js l).length = l.length := setN_len _ _ _
theorem set1_ne (js : List Jb) (l : List St) {i k : Nat} (h : k ≠ i) : (set1 js l i).getD k St.no = l.getD k St.no := by
  unfold set1 setS; split
  · simp [List.getD_eq_getElem?_getD, List.getElem?_set_ne (Ne.symm h)]
  · rfl
theorem setN_ge (js : List Jb) (l : List St) (n : Nat) : ∀ k, n ≤ k → (setN js n l).getD k St.no = l.getD k St.no := by
  induction n with
  | zero => intro k _; rfl
  | succ n ih => intro k hk; simp only [setN]; rw [set1_ne _ _ (by omega), ih k (by omega)]
/-- what a job needs lies ahead of it -/
def WfJ (js : List Jb) : Prop := ∀ k, ∀ n ∈ (js.getD k Jb.no).needs, n < k
theorem stA_congr {l m : List St} {n : Nat} (h : l.getD n St.no = m.getD n St.no) : stA l n = stA m n := by unfold stA; rw [h]
theorem passA_congr {y : Jb} {l m : List St} (h : ∀ n ∈ y.needs, stA l n = stA m n) : passA y l = passA y m := by
  unfold passA
  rw [Bool.eq_iff_iff, List.all_eq_true, List.all_eq_true]
  exact ⟨fun g n hn => by rw [← h n hn]; exact g n hn, fun g n hn => by rw [h n hn]; exact g n hn⟩
theorem brokA_congr {y : Jb} {l m : List St} (h : ∀ n ∈ y.needs, stA l n = stA m n) : brokA y l = brokA y m := by
  unfold brokA
  rw [Bool.eq_iff_iff, List.any_eq_true, List.any_eq_true]
  exact ⟨fun ⟨n, hn, g⟩ => ⟨n, hn, by rw [← h n hn]; exact g⟩, fun ⟨n, hn, g⟩ => ⟨n, hn, by rw [h n hn]; exact g⟩⟩
theorem nextA_congr {y : Jb} {l m : List St} (p : Bool) (h : ∀ n ∈ y.needs, stA l n = stA m n) : nextA y l p = nextA y m p := by
  unfold nextA; rw [passA_congr h, brokA_congr h]
theorem setN_stable (js : List Jb) (l : List St) (n : Nat) : ∀ m, n ≤ m → ∀ k, k < n → (setN js m l).getD k St.no = (setN js n l).getD k St.no := by
  intro m hm
  induction m with
  | zero => intro k hk; omega
  | succ m ih =>
    intro k hk
    rcases Nat.lt_or_ge m n with h | h
    · rw [show n = m + 1 by omega]
    · simp only [setN]; rw [set1_ne _ _ (by omega), ih h k hk]
theorem setN_at {js : List Jb} (wf : WfJ js) (l : List St) {n k : Nat} (hk : k < n) (hl : k < l.length) :
    (setN js n l).getD k St.no = if stA l k = 1 then (l.getD k St.no).to (nextA (js.getD k Jb.no) (setN js n l) (l.getD k St.no).played) else l.getD k St.no := by
  rw [setN_stable js l (k + 1) n hk k (by omega)]
  have h0 := setN_ge js l k k (Nat.le_refl _)
  have hlen := setN_len js l k
  have hc : nextA (js.getD k Jb.no) (setN js n l) (l.getD k St.no).played = nextA (js.getD k Jb.no) (setN js k l) (l.getD k St.no).played :=
    nextA_congr _ fun m hm => stA_congr (setN_stable js l k n (by omega) m (wf k m hm))
  rw [hc]
  simp only [setN, set1, setS, stA_congr h0, h0]
  split
  · rw [List.getD_eq_getElem?_getD, List.getElem?_set_self (by omega)]; rfl
  · exact h0
/-- what settled jobs are -/
theorem settle_at {js : List Jb} (wf : WfJ js) (l : List St) {k : Nat} (hl : k < l.length) :
    (settle js l).getD k St.no = if stA l k = 1 then (l.getD k St.no).to (nextA (js.getD k Jb.no) (settle js l) (l.getD k St.no).played) else l.getD k St.no := setN_at wf l hl hl
/-- what holds of jobs, whatever is done -/
structure Inv (js : List Jb) (l : List St) : Prop where
  len : l.length = js.length
  pass : ∀ k, k < l.length → 2 ≤ stA l k → stA l k ≤ 6 → passA (js.getD k Jb.no) l = true
  st : ∀ k, k < l.length → 1 ≤ stA l k ∧ stA l k ≤ 11
  tr : ∀ k, k < l.length → (l.getD k St.no).tried ≤ (js.getD k Jb.no).tries ∧ (stA l k ≤ 3 → (l.getD k St.no).tried < (js.getD k Jb.no).tries)
  set : ∀ k, k < l.length → stA l k = 1 → nextA (js.getD k Jb.no) l (l.getD k St.no).played = 1
theorem getD_set (l : List St) {i k : Nat} (y : St) (hi : i < l.length) : (l.set i y).getD k St.no = if k = i then y else l.getD k St.no := by
  rw [List.getD_eq_getElem?_getD, List.getD_eq_getElem?_getD, List.getElem?_set]
  by_cases h : k = i
  · subst h; simp [hi]
  · rw [if_neg (Ne.symm h), if_neg h]
/-- how much is left to do -/
def leftJ (y : Jb) (x : St) : Int := if endS x.s then 0 else if x.s = 3 then 2 * (y.tries - x.tried) else if x.s = 1 then 2 * (y.tries - x.tried) + 2 else 2 * (y.tries - x.tried) + 1
theorem nextA_cases (y : Jb) (l : List St) (p : Bool) : (nextA y l p = 10 ∧ brokA y l = true) ∨ (nextA y l p = 1 ∧ brokA y l = false ∧ passA y l = false) ∨ ((nextA y l p = 2 ∧ p = false) ∧ passA y l = true) ∨ (nextA y l p = 3 ∧ passA y l = true) := by
  unfold nextA
  cases brokA y l <;> cases passA y l <;> cases y.manual <;> cases p <;> simp
theorem brokA_of_pass {y : Jb} {l : List St} (h : passA y l = true) : brokA y l = false := by
  unfold passA at h
  unfold brokA
  rw [List.all_eq_true] at h
  rw [List.any_eq_false]
  intro n hn
  have := h n hn
  simp only [decide_eq_true_eq] at this
  simp [this]
theorem nextA_pass {y : Jb} {l : List St} (h : passA y l = true) : nextA y l true = 3 := by
  unfold nextA
  rw [brokA_of_pass h, h]; simp
/-- one job, not at its end, is turned, and all are settled -/
theorem Inv.step {js : List Jb} {l : List St} (wf : WfJ js) (h : Inv js l) {i : Nat} (hi : i < l.length) (y : St) (hx : endS (stA l i) = false)
    (hy : 1 ≤ y.s ∧ y.s ≤ 11) (ht : y.tried ≤ (js.getD i Jb.no).tries ∧ (y.s ≤ 3 → y.tried < (js.getD i Jb.no).tries)) (hp : 2 ≤ y.s → y.s ≤ 6 → passA (js.getD i Jb.no) l = true) :
    Inv js (settle js (l.set i y)) ∧ (∀ k, k ≠ i → stA l k ≠ 1 → (settle js (l.set i y)).getD k St.no = l.getD k St.no) ∧ (y.s ≠ 1 → (settle js (l.set i y)).getD i St.no = y) ∧
    (∀ k, k < l.length → (settle js (l.set i y)).getD k St.no = (if k = i then y else l.getD k St.no).to (stA (settle js (l.set i y)) k)) ∧
    (∀ k, k < l.length → k ≠ i → leftJ (js.getD k Jb.no) ((settle js (l.set i y)).getD k St.no) ≤ leftJ (js.getD k Jb.no) (l.getD k St.no)) ∧
    (y.s = 1 → y.played = true → passA (js.getD i Jb.no) l = true → stA (settle js (l.set i y)) i = 3) := by
  generalize hm : settle js (l.set i y) = m
  have hlen : m.length = l.length := by rw [← hm, settle_len, List.length_set]
  have hat : ∀ k, k < l.length → m.getD k St.no = if (if k = i then y else l.getD k St.no).s = 1 then (if k = i then y else l.getD k St.no).to (nextA (js.getD k Jb.no) m (if k = i then y else l.getD k St.no).played) else (if k = i then y else l.getD k St.no) := by
    intro k hk
    have := settle_at wf (l.set i y) (k := k) (by simpa using hk)
    rw [hm] at this
    rw [this]
    simp only [stA, getD_set l y hi]
  obtain ⟨Z, hZ⟩ : ∃ Z : Nat → St, ∀ k, Z k = if k = i then y else l.getD k St.no := ⟨_, fun _ => rfl⟩
  simp only [← hZ] at hat ⊢
  have hZi : Z i = y := by rw [hZ, if_pos rfl]
  have hZn : ∀ k, k ≠ i → Z k = l.getD k St.no := fun k hk => by rw [hZ, if_neg hk]
  have hx5 : stA l i ≠ 5 := by intro h5; rw [h5] at hx; simp [endS] at hx
  have hne : ∀ k, k ≠ i → stA l k ≠ 1 → m.getD k St.no = l.getD k St.no := by
    intro k hk h1
    rcases Nat.lt_or_ge k l.length with hl | hl
    · rw [hat k hl, hZn k hk]
      exact if_neg h1
    · rw [List.getD_eq_getElem?_getD, List.getD_eq_getElem?_getD, List.getElem?_eq_none hl, List.getElem?_eq_none (by omega)]
  have hsame : ∀ k, k < l.length → m.getD k St.no = (Z k).to (stA m k) := by
    intro k hk
    unfold stA
    rw [hat k hk]
    generalize Z k = z
    by_cases h1 : z.s = 1
    · rw [if_pos h1]; rfl
    · rw [if_neg h1]; rfl
  -- what was passed is passed
  have hpass : ∀ k, passA (js.getD k Jb.no) l = true → passA (js.getD k Jb.no) m = true := by
    intro k hk
    unfold passA at hk ⊢
    rw [List.all_eq_true] at hk ⊢
    intro n hn
    have h5 := hk n hn
    simp only [decide_eq_true_eq] at h5 ⊢
    have hni : n ≠ i := fun e => hx5 (by rw [← e]; exact h5)
    unfold stA; rw [hne n hni (by omega)]; exact h5
  have hst : ∀ k, k < l.length → (stA m k = (Z k).s ∧ (Z k).s ≠ 1) ∨ ((Z k).s = 1 ∧ stA m k = nextA (js.getD k Jb.no) m (Z k).played) := by
    intro k hk
    unfold stA; rw [hat k hk]
    by_cases h1 : (Z k).s = 1
    · rw [if_pos h1]; exact .inr ⟨h1, rfl⟩
    · rw [if_neg h1]; exact .inl ⟨rfl, h1⟩
  have htr : ∀ k, k < l.length → ((Z k).tried ≤ (js.getD k Jb.no).tries ∧ ((Z k).s ≤ 3 → (Z k).tried < (js.getD k Jb.no).tries)) := by
    intro k hk
    by_cases e : k = i
    · subst e; rw [hZi]; exact ht
    · rw [hZn k e]; exact h.tr k hk
  refine ⟨⟨by rw [hlen, h.len], ?_, ?_, ?_, ?_⟩, hne, ?_, hsame, ?_, ?_⟩
  · intro k hk h2 h6
    rw [hlen] at hk
    rcases hst k hk with ⟨e, h1⟩ | ⟨e, h1⟩
    · apply hpass
      rw [e] at h2 h6
      by_cases ek : k = i
      · subst ek; rw [hZi] at h2 h6; exact hp h2 h6
      · rw [hZn k ek] at h2 h6; exact h.pass k hk h2 h6
    · rcases nextA_cases (js.getD k Jb.no) m (Z k).played with ⟨g, _⟩ | ⟨g, _⟩ | ⟨_, g⟩ | ⟨_, g⟩
      · omega
      · omega
      · exact g
      · exact g
  · intro k hk
    rw [hlen] at hk
    rcases hst k hk with ⟨e, h1⟩ | ⟨e, h1⟩
    · rw [e]
      by_cases ek : k = i
      · subst ek; rw [hZi]; exact hy
      · rw [hZn k ek]; exact h.st k hk
    · rcases nextA_cases (js.getD k Jb.no) m (Z k).played with ⟨g, _⟩ | ⟨g, _⟩ | ⟨⟨g, _⟩, _⟩ | ⟨g, _⟩ <;> omega
  · intro k hk
    rw [hlen] at hk
    rw [hsame k hk]
    refine ⟨(htr k hk).1, fun h3 => (htr k hk).2 ?_⟩
    rcases hst k hk with ⟨e, h1⟩ | ⟨e, h1⟩
    · rw [← e]; exact h3
    · rw [e]; omega
  · intro k hk h1
    rw [hlen] at hk
    rcases hst k hk with ⟨e, h2⟩ | ⟨e, h2⟩
    · rw [h1] at e; exact absurd e.symm h2
    · rw [hsame k hk]
      show nextA _ m (Z k).played = 1
      rw [← h2]; exact h1
  · intro h1
    rw [hat i hi, hZi, if_neg h1]
  · intro k hk e
    have h1 := hsame k hk
    rw [hZn k e] at h1
    rw [h1]
    rcases hst k hk with ⟨g, g1⟩ | ⟨g, g1⟩
    · rw [hZn k e] at g; rw [g]; exact Int.le_refl _
    · rw [hZn k e] at g g1
      have h3 := (h.tr k hk).2 (by unfold stA; omega)
      unfold leftJ
      rcases nextA_cases (js.getD k Jb.no) m (l.getD k St.no).played with ⟨q, _⟩ | ⟨q, _⟩ | ⟨⟨q, _⟩, _⟩ | ⟨q, _⟩ <;> rw [← g1] at q <;> rw [q, g] <;> simp only [St.to] <;> generalize (l.getD k St.no).tried = a at * <;> generalize (js.getD k Jb.no).tries = c at * <;> simp [endS] <;> omega
  · intro h1 h2 h3
    have g := hat i hi
    rw [hZi, if_pos h1, h2, nextA_pass (hpass i h3)] at g
    unfold stA; rw [g]; rfl
/-! what is done -/
def startJ (l : List St) (i badge now : Int) : Int × List St :=
  if i < 0 ∨ (l.length : Int) ≤ i then (1, l) else if badge < 1 ∨ 2147483647 < badge ∨ now < 0 ∨ 2147483647 < now then (1, l)
  else if stA l i.toNat ≠ 3 then (50, l) else (0, l.set i.toNat ⟨4, (l.getD i.toNat St.no).tried + 1, badge, now, 0, (l.getD i.toNat St.no).played⟩)
def endsJ (js : List Jb) (l : List St) (i badge : Int) (s : Nat) (num : Int) : Int × List St :=
  if i < 0 ∨ (l.length : Int) ≤ i then (1, l) else if stA l i.toNat ≠ 4 ∨ (l.getD i.toNat St.no).badge ≠ badge then (60, l)
  else (0, settle js (l.set i.toNat (if (s = 6 ∨ s = 7) ∧ (l.getD i.toNat St.no).tried < (js.getD i.toNat Jb.no).tries then ⟨3, (l.getD i.toNat St.no).tried, 0, 0, 0, (l.getD i.toNat St.no).played⟩ else ⟨s, (l.getD i.toNat St.no).tried, badge, 0, num, (l.getD i.toNat St.no).played⟩)))
def endJ (js : List Jb) (l : List St) (i badge num : Int) : Int × List St :=
  if i < 0 ∨ (l.length : Int) ≤ i then (1, l) else if num < 0 ∨ 999 < num then (1, l) else if num = 0 then endsJ js l i badge 5 0 else endsJ js l i badge 6 num
def cancelJ (js : List Jb) (l : List St) (i : Int) : Int × List St :=
  if i < 0 ∨ (l.length : Int) ≤ i then (1, l) else if endS (stA l i.toNat) = true then (50, l)
  else (0, settle js (l.set i.toNat ⟨9, (l.getD i.toNat St.no).tried, 0, 0, 0, (l.getD i.toNat St.no).played⟩))
def playJ (js : List Jb) (l : List St) (i : Int) : Int × List St :=
  if i < 0 ∨ (l.length : Int) ≤ i then (1, l) else if stA l i.toNat ≠ 2 then (50, l)
  else (0, settle js (l.set i.toNat ⟨1, (l.getD i.toNat St.no).tried, (l.getD i.toNat St.no).badge, (l.getD i.toNat St.no).since, (l.getD i.toNat St.no).code, true⟩))
/-- a step: its kind, and three numbers -/
structure Sp where
  kind : Int
  i : Int
  badge : Int
  n : Int
def doJ (js : List Jb) (l : List St) (p : Sp) : Int × List St :=
  if p.kind = 0 then startJ l p.i p.badge p.n else if p.kind = 1 then endJ js l p.i p.badge p.n else if p.kind = 2 then endsJ js l p.i p.badge 7 0
  else if p.kind = 3 then endsJ js l p.i p.badge 8 0 else if p.kind = 4 then endsJ js l p.i p.badge 11 0 else if p.kind = 5 then cancelJ js l p.i else playJ js l p.i
/-- what an act keeps: c is 1 where it starts the job q, else 0 -/
structure Kept (js : List Jb) (l m : List St) (e : Int) (st : Bool) (i : Int) : Prop where
  inv : Inv js m
  len : m.length = l.length
  same : e ≠ 0 → m = l
  ended : ∀ k, endS (stA l k) = true → m.getD k St.no = l.getD k St.no
  tried : ∀ k, k < l.length → (m.getD k St.no).tried = (l.getD k St.no).tried + (if st = true ∧ e = 0 ∧ (k : Int) = i then 1 else 0)
  at_ : st = true → e = 0 → 0 ≤ i ∧ i < (l.length : Int)
theorem Kept.refl {js : List Jb} {l : List St} (h : Inv js l) {e : Int} (he : e ≠ 0) (st : Bool) (i : Int) : Kept js l l e st i :=
  ⟨h, rfl, fun _ => rfl, fun _ _ => rfl, fun k _ => by rw [if_neg (fun g => he g.2.1)]; simp, fun _ g => absurd g he⟩
theorem startJ_ok {js : List Jb} {l : List St} (h : Inv js l) {i : Nat} (hi : i < l.length) (h3 : stA l i = 3) (badge now : Int) : 
    Inv js (l.set i ⟨4, (l.getD i St.no).tried + 1, badge, now, 0, (l.getD i St.no).played⟩) := by
  generalize hy : (⟨4, (l.getD i St.no).tried + 1, badge, now, 0, (l.getD i St.no).played⟩ : St) = y
  have hy4 : y.s = 4 := by rw [← hy]
  have hyt : y.tried = (l.getD i St.no).tried + 1 := by rw [← hy]
  have hst : ∀ k, stA (l.set i y) k = if k = i then 4 else stA l k := by
    intro k; unfold stA; rw [getD_set l y hi]; split <;> simp [hy4]
  have hpc : ∀ z, passA z (l.set i y) = passA z l := by
    intro z; unfold passA
    congr 1; funext n
    rw [hst n]; split
    · rename_i e; subst e; rw [h3]; rfl
    · rfl
  have hbc : ∀ z, brokA z (l.set i y) = brokA z l := by
    intro z; unfold brokA
    congr 1; funext n
    rw [hst n]; split
    · rename_i e; subst e; rw [h3]; rfl
    · rfl
  refine ⟨by rw [List.length_set, h.len], ?_, ?_, ?_, ?_⟩
  · intro k hk h1 h2
    rw [List.length_set] at hk
    rw [hst] at h1 h2
    rw [hpc]
    by_cases e : k = i
    · subst e; exact h.pass k hk (by omega) (by omega)
    · rw [if_neg e] at h1 h2; exact h.pass k hk h1 h2
  · intro k hk
    rw [List.length_set] at hk
    rw [hst]
    split
    · omega
    · exact h.st k hk
  · intro k hk
    rw [List.length_set] at hk
    rw [hst, getD_set l y hi]
    by_cases e : k = i
    · subst e
      have := (h.tr k hk).2 (by omega)
      rw [if_pos rfl, if_pos rfl, hyt]
      exact ⟨by omega, fun g => by omega⟩
    · rw [if_neg e, if_neg e]; exact h.tr k hk
  · intro k hk h1
    rw [List.length_set] at hk
    rw [hst] at h1
    have e : k ≠ i := fun e => by rw [if_pos e] at h1; omega
    rw [if_neg e] at h1
    have := h.set k hk h1
    rw [getD_set l y hi, if_neg e]
    unfold nextA at this ⊢
    rw [hpc, hbc]; exact this
theorem startJ_kept {js : List Jb} {l : List St} (h : Inv js l) (i badge now : Int) : Kept js l (startJ l i badge now).2 (startJ l i badge now).1 true i := by
  unfold startJ
  split
  · exact Kept.refl h (by simp) _ _
  rename_i c1
  split
  · exact Kept.refl h (by simp) _ _
  split
  · exact Kept.refl h (by simp) _ _
  rename_i c3
  have hi : i.toNat < l.length := by omega
  have c3' : stA l i.toNat = 3 := by simpa using c3
  refine ⟨startJ_ok h hi c3' _ _, by simp, fun g => absurd rfl g, ?_, ?_, fun _ _ => by omega⟩
  · intro k hk
    simp only
    rw [getD_set l _ hi, if_neg]
    intro e; subst e; rw [c3'] at hk; simp [endS] at hk
  · intro k hk
    simp only
    rw [getD_set l _ hi]
    by_cases e : k = i.toNat
    · subst e; rw [if_pos rfl, if_pos (by simp; omega)]
    · rw [if_neg e, if_neg (by omega)]; simp
/-- one job is turned, and all are settled: what is kept -/
theorem turn_kept {js : List Jb} {l : List St} (wf : WfJ js) (h : Inv js l) {i : Nat} (hi : i < l.length) (y : St) (hx : endS (stA l i) = false)
    (hy : 1 ≤ y.s ∧ y.s ≤ 11) (ht : y.tried = (l.getD i St.no).tried ∧ (y.s ≤ 3 → y.tried < (js.getD i Jb.no).tries)) (hp : 2 ≤ y.s → y.s ≤ 6 → passA (js.getD i Jb.no) l = true) (z : Int) :
    Kept js l (settle js (l.set i y)) 0 false z := by
  obtain ⟨a1, a2, a3, a4, a5, a6⟩ := h.step wf hi y hx hy ⟨by rw [ht.1]; exact (h.tr i hi).1, ht.2⟩ hp
  refine ⟨a1, by rw [settle_len, List.length_set], fun g => absurd rfl g, ?_, ?_, fun g => by cases g⟩
  · intro k hk
    refine a2 k (fun e => ?_) (fun e => ?_)
    · subst e; rw [hx] at hk; cases hk
    · rw [e] at hk; simp [endS] at hk
  · intro k hk
    rw [a4 k hk]
    by_cases e : k = i
    · subst e
      rw [if_pos rfl]
      show y.tried = _
      rw [ht.1]; simp
    · rw [if_neg e]
      show (l.getD k St.no).tried = _
      simp
theorem Kept.zero {js : List Jb} {l m : List St} {e z : Int} (h : Kept js l m e false z) (i : Int) : Kept js l m e false i :=
  ⟨h.inv, h.len, h.same, h.ended, fun k hk => by have := h.tried k hk; rw [if_neg (by simp)] at this; rw [if_neg (by simp)]; exact this, fun g => by cases g⟩
theorem endsJ_kept {js : List Jb} {l : List St} (wf : WfJ js) (h : Inv js l) (i badge : Int) (s : Nat) (num z : Int) (hs : 5 ≤ s ∧ s ≤ 11) : Kept js l (endsJ js l i badge s num).2 (endsJ js l i badge s num).1 false z := by
  unfold endsJ
  split
  · exact Kept.refl h (by simp) _ _
  rename_i c1
  split
  · exact Kept.refl h (by simp) _ _
  rename_i c2
  have hi : i.toNat < l.length := by omega
  simp only [not_or, Decidable.not_not] at c2
  have hpass := h.pass i.toNat hi (by omega) (by omega)
  refine turn_kept wf h hi _ (by rw [c2.1]; rfl) ?_ ?_ (fun _ _ => hpass) z
  · split
    · simp
    · simp; omega
  · split
    · rename_i c; exact ⟨rfl, fun _ => c.2⟩
    · exact ⟨rfl, fun g => by simp at g; omega⟩
theorem endJ_kept {js : List Jb} {l : List St} (wf : WfJ js) (h : Inv js l) (i badge num z : Int) : Kept js l (endJ js l i badge num).2 (endJ js l i badge num).1 false z := by
  unfold endJ
  split
  · exact Kept.refl h (by simp) _ _
  split
  · exact Kept.refl h (by simp) _ _
  split
  · exact endsJ_kept wf h _ _ _ _ _ (by decide)
  · exact endsJ_kept wf h _ _ _ _ _ (by decide)
theorem cancelJ_kept {js : List Jb} {l : List St} (wf : WfJ js) (h : Inv js l) (i z : Int) : Kept js l (cancelJ js l i).2 (cancelJ js l i).1 false z := by
  unfold cancelJ
  split
  · exact Kept.refl h (by simp) _ _
  split
  · exact Kept.refl h (by simp) _ _
  rename_i c1 c2
  have hi : i.toNat < l.length := by omega
  exact turn_kept wf h hi ⟨9, (l.getD i.toNat St.no).tried, 0, 0, 0, (l.getD i.toNat St.no).played⟩ (by simpa using c2) ⟨by simp, by simp⟩ ⟨rfl, fun g => by simp at g⟩ (fun _ g => by simp at g) z
theorem playJ_kept {js : List Jb} {l : List St} (wf : WfJ js) (h : Inv js l) (i z : Int) : Kept js l (playJ js l i).2 (playJ js l i).1 false z := by
  unfold playJ
  split
  · exact Kept.refl h (by simp) _ _
  split
  · exact Kept.refl h (by simp) _ _
  rename_i c1 c2
  have hi : i.toNat < l.length := by omega
  have c2' : stA l i.toNat = 2 := by simpa using c2
  exact turn_kept wf h hi ⟨1, (l.getD i.toNat St.no).tried, (l.getD i.toNat St.no).badge, (l.getD i.toNat St.no).since, (l.getD i.toNat St.no).code, true⟩ (by rw [c2']; rfl) ⟨by simp, by simp⟩ ⟨rfl, fun _ => (h.tr _ hi).2 (by omega)⟩ (fun g _ => by simp at g) z
theorem doJ_kept {js : List Jb} {l : List St} (wf : WfJ js) (h : Inv js l) (p : Sp) : Kept js l (doJ js l p).2 (doJ js l p).1 (decide (p.kind = 0)) p.i := by
  unfold doJ
  split
  · rename_i c; rw [decide_eq_true c]; exact startJ_kept h _ _ _
  rename_i c
  rw [decide_eq_false c]
  split
  · exact endJ_kept wf h _ _ _ _
  split
  · exact endsJ_kept wf h _ _ _ _ _ (by decide)
  split
  · exact endsJ_kept wf h _ _ _ _ _ (by decide)
  split
  · exact endsJ_kept wf h _ _ _ _ _ (by decide)
  split
  · exact cancelJ_kept wf h _ _
  · exact playJ_kept wf h _ _
/-- jobs of which none was started -/
theorem new_inv {js : List Jb} (wf : WfJ js) (ht : ∀ k, k < js.length → 0 < (js.getD k Jb.no).tries) : Inv js (settle js (List.replicate js.length St.no)) := by
  have hg : ∀ k, (List.replicate js.length St.no).getD k St.no = St.no := by
    intro k; rw [List.getD_eq_getElem?_getD, List.getElem?_replicate]; split <;> rfl
  have hlen : (List.replicate js.length St.no).length = js.length := by simp
  generalize (List.replicate js.length St.no) = l at hg hlen
  generalize hm : settle js l = m
  have hml : m.length = js.length := by rw [← hm, settle_len, hlen]
  have hat : ∀ k, k < js.length → m.getD k St.no = St.no.to (nextA (js.getD k Jb.no) m false) := by
    intro k hk
    have := settle_at wf l (k := k) (by omega)
    rw [hm] at this
    rw [this]; unfold stA; rw [hg]; rfl
  have hst : ∀ k, k < js.length → stA m k = nextA (js.getD k Jb.no) m false := fun k hk => by unfold stA; rw [hat k hk]; rfl
  refine ⟨hml, ?_, ?_, ?_, ?_⟩
  all_goals intro k hk; rw [hml] at hk
  · intro h2 h6
    rw [hst k hk] at h2 h6
    rcases nextA_cases (js.getD k Jb.no) m false with ⟨g, _⟩ | ⟨g, _⟩ | ⟨_, g⟩ | ⟨_, g⟩
    · omega
    · omega
    · exact g
    · exact g
  · rw [hst k hk]
    rcases nextA_cases (js.getD k Jb.no) m false with ⟨g, _⟩ | ⟨g, _⟩ | ⟨⟨g, _⟩, _⟩ | ⟨g, _⟩ <;> omega
  · rw [hat k hk]
    have := ht k hk
    exact ⟨by show (0 : Int) ≤ _; omega, fun _ => this⟩
  · intro h1
    rw [hst k hk] at h1
    rw [hat k hk]; exact h1
end Go.Proofs.Ytklhioaokogpdaa
