/- Jobs, plainly: what is left to do gets less with each act, and as long as anything is left, one may be done; no condition. -/
import Derived.Test.YtklhioaokogpdaaPJobs
namespace Go.Proofs.Ytklhioaokogpdaa
open Go.Ab
def tot (f : Nat → Int) : Nat → Int
  | 0 => 0
  | n + 1 => tot f n + f n
theorem tot_le {f g : Nat → Int} : ∀ n, (∀ k, k < n → f k ≤ g k) → tot f n ≤ tot g n := by
  intro n
  induction n with
  | zero => intro _; exact Int.le_refl _
  | succ n ih =>
    intro h
    have h1 := ih fun k hk => h k (by omega)
    have h2 := h n (by omega)
    simp only [tot]; omega
theorem tot_lt {f g : Nat → Int} {c : Int} : ∀ n i, i < n → f i + c ≤ g i → (∀ k, k < n → k ≠ i → f k ≤ g k) → tot f n + c ≤ tot g n := by
  intro n
  induction n with
  | zero => intro i hi; omega
  | succ n ih =>
    intro i hi hx h
    simp only [tot]
    by_cases hin : i = n
    · subst hin
      have := tot_le i fun k hk => h k (by omega) (by omega)
      omega
    · have h1 := ih i (by omega) hx fun k hk hki => h k (by omega) hki
      have h2 := h n (by omega) (by omega)
      omega
theorem tot_lin (f : Nat → Int) (n : Nat) : tot (fun k => 2 * f k + 2) n = 2 * tot f n + 2 * n := by
  induction n with
  | zero => rfl
  | succ n ih => simp only [tot, ih]; omega
theorem tot_five {f : Nat → Int} (n : Nat) (h : ∀ k, k < n → 0 ≤ f k ∧ f k ≤ 5) : 0 ≤ tot f n ∧ tot f n ≤ 5 * n := by
  induction n with
  | zero => simp [tot]
  | succ n ih =>
    have h1 := ih fun k hk => h k (by omega)
    have h2 := h n (by omega)
    simp only [tot]; omega
def leftA (js : List Jb) (l : List St) : Int := tot (fun k => leftJ (js.getD k Jb.no) (l.getD k St.no)) l.length
def openA (js : List Jb) (l : List St) : Int := tot (fun k => (js.getD k Jb.no).tries - (l.getD k St.no).tried) l.length
/-- an act on the job i: c is how much less is left, d how often it was started -/
structure Moved (js : List Jb) (l m : List St) (i : Nat) (c d : Int) : Prop where
  inv : Inv js m
  len : m.length = l.length
  stay : ∀ k, k ≠ i → stA l k ≠ 1 → m.getD k St.no = l.getD k St.no
  left : leftA js m + c ≤ leftA js l
  op : openA js m + d ≤ openA js l
  nn : (∀ k, k < l.length → 0 ≤ (l.getD k St.no).tried) → ∀ k, k < m.length → 0 ≤ (m.getD k St.no).tried
theorem Moved.trans {js : List Jb} {l m q : List St} {i : Nat} {c d c' d' : Int} (a : Moved js l m i c d) (b : Moved js m q i c' d') : Moved js l q i (c + c') (d + d') :=
  ⟨b.inv, b.len.trans a.len, fun k hk h1 => by rw [b.stay k hk (by unfold stA; rw [a.stay k hk h1]; exact h1), a.stay k hk h1], by have := a.left; have := b.left; omega, by have := a.op; have := b.op; omega, fun h => b.nn (a.nn h)⟩
theorem leftJ_nn {js : List Jb} {l : List St} (h : Inv js l) {k : Nat} (hk : k < l.length) : 0 ≤ leftJ (js.getD k Jb.no) (l.getD k St.no) := by
  have := (h.tr k hk).1
  unfold leftJ
  split
  · omega
  · split
    · omega
    · split <;> omega
theorem leftA_nn {js : List Jb} {l : List St} (h : Inv js l) : 0 ≤ leftA js l := by
  have h0 : tot (fun _ => 0) l.length = 0 := by
    generalize l.length = n
    induction n with
    | zero => rfl
    | succ n ih => simp only [tot, ih]; rfl
  rw [← h0]
  exact tot_le _ fun k hk => leftJ_nn h hk
/-- one job is turned, and all are settled -/
theorem turn_moved {js : List Jb} {l : List St} (wf : WfJ js) (h : Inv js l) {i : Nat} (hi : i < l.length) (y : St) (hx : endS (stA l i) = false)
    (hy : 1 ≤ y.s ∧ y.s ≤ 11) (ht : y.tried = (l.getD i St.no).tried ∧ (y.s ≤ 3 → y.tried < (js.getD i Jb.no).tries)) (hp : 2 ≤ y.s → y.s ≤ 6 → passA (js.getD i Jb.no) l = true)
    (hleft : leftJ (js.getD i Jb.no) ((settle js (l.set i y)).getD i St.no) + 1 ≤ leftJ (js.getD i Jb.no) (l.getD i St.no)) :
    Moved js l (settle js (l.set i y)) i 1 0 := by
  obtain ⟨a1, a2, a3, a4, a5, a6⟩ := h.step wf hi y hx hy ⟨by rw [ht.1]; exact (h.tr i hi).1, ht.2⟩ hp
  have hlen : (settle js (l.set i y)).length = l.length := by rw [settle_len, List.length_set]
  have htr : ∀ k, k < l.length → ((settle js (l.set i y)).getD k St.no).tried = (l.getD k St.no).tried := by
    intro k hk
    rw [a4 k hk]
    by_cases e : k = i
    · subst e; rw [if_pos rfl]; show y.tried = _; exact ht.1
    · rw [if_neg e]; rfl
  refine ⟨a1, hlen, a2, ?_, ?_, fun hn k hk => ?_⟩
  · unfold leftA
    rw [hlen]
    exact tot_lt _ i hi hleft fun k hk hki => a5 k hk hki
  · unfold openA
    rw [hlen]
    have := tot_le (f := fun k => (js.getD k Jb.no).tries - ((settle js (l.set i y)).getD k St.no).tried) (g := fun k => (js.getD k Jb.no).tries - (l.getD k St.no).tried) l.length fun k hk => by
      rw [htr k hk]; exact Int.le_refl _
    omega
  · rw [hlen] at hk
    rw [htr k hk]; exact hn k hk
theorem end_moved {js : List Jb} {l : List St} (wf : WfJ js) (h : Inv js l) {i : Nat} (hi : i < l.length) (h4 : stA l i = 4) {num : Int} (hn : 0 ≤ num ∧ num ≤ 999) :
    ∃ m, endJ js l i (l.getD i St.no).badge num = (0, m) ∧ Moved js l m i 1 0 := by
  have hx : endS (stA l i) = false := by rw [h4]; rfl
  have hx4 : (l.getD i St.no).s = 4 := h4
  have hpass := h.pass i hi (by omega) (by omega)
  have htr := (h.tr i hi).1
  have key : ∀ (y : St), (y.s = 3 ∨ y.s = 5 ∨ y.s = 6) → y.tried = (l.getD i St.no).tried → (y.s = 3 → y.tried < (js.getD i Jb.no).tries) → Moved js l (settle js (l.set i y)) i 1 0 := by
    intro y hs ht h3
    refine turn_moved wf h hi y hx (by omega) ⟨ht, fun _ => h3 (by omega)⟩ (fun _ _ => hpass) ?_
    rw [(h.step wf hi y hx (by omega) ⟨by omega, fun _ => h3 (by omega)⟩ (fun _ _ => hpass)).2.2.1 (by omega)]
    unfold leftJ
    rw [hx4, ht]
    generalize (l.getD i St.no).tried = a at *
    generalize (js.getD i Jb.no).tries = c at *
    rcases hs with hs | hs | hs <;> rw [hs] <;> simp [endS] <;> omega
  have e1 : ∀ (s : Nat) (num : Int), endsJ js l i (l.getD i St.no).badge s num = (0, settle js (l.set i (if (s = 6 ∨ s = 7) ∧ (l.getD i St.no).tried < (js.getD i Jb.no).tries then ⟨3, (l.getD i St.no).tried, 0, 0, 0, (l.getD i St.no).played⟩ else ⟨s, (l.getD i St.no).tried, (l.getD i St.no).badge, 0, num, (l.getD i St.no).played⟩))) := by
    intro s num
    unfold endsJ
    rw [if_neg (by omega), Int.toNat_natCast, if_neg (by simp [h4])]
  unfold endJ
  rw [if_neg (by omega), if_neg (by omega)]
  by_cases c : num = 0
  · rw [if_pos c, e1]
    refine ⟨_, rfl, ?_⟩
    rw [if_neg (by simp)]
    exact key _ (.inr (.inl rfl)) rfl (fun h => by simp at h)
  · rw [if_neg c, e1]
    refine ⟨_, rfl, ?_⟩
    by_cases d : (l.getD i St.no).tried < (js.getD i Jb.no).tries
    · rw [if_pos ⟨.inl rfl, d⟩]
      exact key _ (.inl rfl) rfl (fun _ => d)
    · rw [if_neg (fun g => d g.2)]
      exact key _ (.inr (.inr rfl)) rfl (fun h => by simp at h)
theorem play_moved {js : List Jb} {l : List St} (wf : WfJ js) (h : Inv js l) {i : Nat} (hi : i < l.length) (h2 : stA l i = 2) :
    ∃ m, playJ js l i = (0, m) ∧ Moved js l m i 1 0 := by
  have hx : endS (stA l i) = false := by rw [h2]; rfl
  have hx2 : (l.getD i St.no).s = 2 := h2
  have hpass := h.pass i hi (by omega) (by omega)
  have htr := h.tr i hi
  unfold playJ
  rw [if_neg (by omega), Int.toNat_natCast, if_neg (by omega)]
  refine ⟨_, rfl, ?_⟩
  have ht3 := htr.2 (by omega)
  generalize hy : (⟨1, (l.getD i St.no).tried, (l.getD i St.no).badge, (l.getD i St.no).since, (l.getD i St.no).code, true⟩ : St) = y
  have y1 : y.s = 1 := by rw [← hy]
  have y2 : y.tried = (l.getD i St.no).tried := by rw [← hy]
  have y3 : y.played = true := by rw [← hy]
  refine turn_moved wf h hi y hx (by omega) ⟨y2, fun _ => by omega⟩ (fun g _ => by omega) ?_
  have st := h.step wf hi y hx (by omega) ⟨by omega, fun _ => by omega⟩ (fun g _ => by omega)
  have g1 := st.2.2.2.2.2 y1 y3 hpass
  have g2 := st.2.2.2.1 i hi
  rw [g2, g1, if_pos rfl]
  unfold leftJ
  rw [hx2]
  simp only [St.to, y2]
  simp [endS]
theorem start_moved {js : List Jb} {l : List St} (h : Inv js l) {i : Nat} (hi : i < l.length) (h3 : stA l i = 3) {badge now : Int} (hb : 1 ≤ badge ∧ badge ≤ 2147483647) (hn : 0 ≤ now ∧ now ≤ 2147483647) :
    ∃ m, startJ l i badge now = (0, m) ∧ Moved js l m i 1 1 ∧ stA m i = 4 ∧ (m.getD i St.no).badge = badge := by
  unfold startJ
  rw [if_neg (by omega), if_neg (by omega), Int.toNat_natCast, if_neg (by omega)]
  have hx3 : (l.getD i St.no).s = 3 := h3
  have hinv := startJ_ok h hi h3 badge now
  generalize hy : (⟨4, (l.getD i St.no).tried + 1, badge, now, 0, (l.getD i St.no).played⟩ : St) = y at hinv ⊢
  have y1 : y.s = 4 := by rw [← hy]
  have y2 : y.tried = (l.getD i St.no).tried + 1 := by rw [← hy]
  have y3 : y.badge = badge := by rw [← hy]
  have hg : ∀ k, (l.set i y).getD k St.no = if k = i then y else l.getD k St.no := fun k => getD_set l y hi
  refine ⟨_, rfl, ⟨hinv, by simp, fun k hk _ => by rw [hg, if_neg hk], ?_, ?_, ?_⟩, by unfold stA; rw [hg, if_pos rfl, y1], by rw [hg, if_pos rfl, y3]⟩
  · unfold leftA
    rw [List.length_set]
    refine tot_lt _ i hi ?_ fun k hk hki => by rw [hg, if_neg hki]; exact Int.le_refl _
    rw [hg, if_pos rfl]
    unfold leftJ
    rw [y1, hx3, y2]
    simp [endS]; omega
  · unfold openA
    rw [List.length_set]
    refine tot_lt _ i hi ?_ fun k hk hki => by rw [hg, if_neg hki]; exact Int.le_refl _
    rw [hg, if_pos rfl, y2]; omega
  · intro hn k hk
    rw [List.length_set] at hk
    rw [hg]
    split
    · have := hn i hi; omega
    · exact hn k hk
/-- where not all are at their end, one may be played, ended or started -/
theorem some_active {js : List Jb} {l : List St} (wf : WfJ js) (h : Inv js l) (hno : ∀ k, k < l.length → ¬ (stA l k = 2 ∨ stA l k = 3 ∨ stA l k = 4)) : ∀ k, k < l.length → endS (stA l k) = true := by
  intro k
  induction k using Nat.strongRecOn with
  | ind k ih =>
    intro hk
    have h1 := h.st k hk
    have h2 := hno k hk
    by_cases c : stA l k = 1
    · exfalso
      rcases nextA_cases (js.getD k Jb.no) l (l.getD k St.no).played with ⟨g, _⟩ | ⟨_, g1, g2⟩ | ⟨⟨g, _⟩, _⟩ | ⟨g, _⟩
      · have := h.set k hk c; omega
      · unfold passA at g2
        unfold brokA at g1
        rw [List.any_eq_false] at g1
        rw [List.all_eq_false] at g2
        obtain ⟨n, hn, hne⟩ := g2
        have h5 := g1 n hn
        have hnk := wf k n hn
        have he := ih n hnk (by omega)
        rw [he] at h5
        simp only [decide_eq_true_eq] at hne
        simp [hne] at h5
      · have := h.set k hk c; omega
      · have := h.set k hk c; omega
    · simp only [endS, Bool.and_eq_true, decide_eq_true_eq]; omega
theorem openA_le {js : List Jb} {l : List St} (h : Inv js l) (hn : ∀ k, k < l.length → 0 ≤ (l.getD k St.no).tried) : openA js l ≤ tot (fun k => (js.getD k Jb.no).tries) l.length :=
  tot_le _ fun k hk => by have := hn k hk; omega
theorem openA_nn {js : List Jb} {l : List St} (h : Inv js l) : 0 ≤ openA js l := by
  have h0 : tot (fun _ => 0) l.length = 0 := by
    generalize l.length = n
    induction n with
    | zero => rfl
    | succ n ih => simp only [tot, ih]; rfl
  rw [← h0]
  exact tot_le _ fun k hk => by have := (h.tr k hk).1; omega
theorem leftA_le {js : List Jb} {l : List St} (h : Inv js l) (hn : ∀ k, k < l.length → 0 ≤ (l.getD k St.no).tried) : leftA js l ≤ 2 * tot (fun k => (js.getD k Jb.no).tries) l.length + 2 * l.length := by
  rw [← tot_lin]
  refine tot_le _ fun k hk => ?_
  have h1 := hn k hk
  have h2 := (h.tr k hk).1
  unfold leftJ
  split
  · omega
  · split
    · omega
    · split <;> omega
end Go.Proofs.Ytklhioaokogpdaa
