/- What a law is handed, read as data; rows by their places; no condition. -/
import Derived.Test.YtaahkamnpobofaaAb21
import Derived.ChangeArms
import Derived.Carry
import Derived.SizedLaws
import Derived.ChangeOld
/- What a law is handed, read as data: abstract values over read-only blocks; no condition. -/
namespace Go.Ab
open Go.RowKit

/-- data -/
inductive Dt where
  | b (x : Bool)
  | i (n : Int)
  | s (l : List UInt8)
  | l (xs : List Dt)
  | st (xs : List Dt)
def offsOk (P : Program) : List Field → Nat → Nat → Bool
  | [], o, n => Nat.beq o n
  | f :: fs, o, n => Nat.beq f.offset o && offsOk P fs (o + P.cellsOf f.type) n
/-- types that are read as data -/
def dataT (P : Program) : Nat → TypeId → Bool
  | 0, _ => false
  | k + 1, t => match P.underlying t with
    | some .bool => true
    | some .string => true
    | some (.int _) => true
    | some (.slice e) => Nat.ble 1 (P.cellsOf e) && Nat.ble 1 (P.bytesOf e) && dataT P k e
    | some (.struct fs) => fs.toList.all (fun f => dataT P k f.type) && offsOk P fs.toList 0 (P.cellsOf t)
    | _ => false
/-- v is a slice that came in: these cells -/
def RoRow (h : Hp) (v : Value) (n : Nat) (xs : List Value) : Prop :=
  ((v = .slice none 0 0 ∨ v = .slice (some ⟨0, 0, some 0⟩) 0 0) ∧ n = 0 ∧ xs = []) ∨ ∃ b c, v = .slice (some ⟨b, 0, none⟩) n c ∧ n ≤ c ∧ c ≤ reachBytes ∧ h[b]? = some (.cells xs true none)
def Rep (P : Program) (h : Hp) : Nat → TypeId → List Value → Dt → Prop
  | 0, _, _, _ => False
  | k + 1, t, cs, d => match P.underlying t, d with
    | some .bool, .b x => cs = [.bool x]
    | some (.int q), .i n => cs = [.int q n] ∧ q.min ≤ n ∧ n ≤ q.max
    | some .string, .s l => cs = [.string (bs l)] ∧ l.length ≤ reachBytes
    | some (.slice e), .l ds => ∃ v xss, cs = [v] ∧ RoRow h v ds.length (List.flatten xss) ∧ xss.length = ds.length ∧ ds.length ≤ reachBytes ∧ ∀ (i : Nat) x d, xss[i]? = some x → ds[i]? = some d → x.length = P.cellsOf e ∧ Rep P h k e x d
    | some (.struct fs), .st ds => ∃ xss, cs = List.flatten xss ∧ xss.length = fs.toList.length ∧ ds.length = fs.toList.length ∧ ∀ (i : Nat) f x d, fs.toList[i]? = some f → xss[i]? = some x → ds[i]? = some d → x.length = P.cellsOf f.type ∧ Rep P h k f.type x d
    | _, _ => False
theorem RoRow.mono {h h' : Hp} (hp : ∃ t, h' = h ++ t) {v : Value} {n : Nat} {xs : List Value} (hr : RoRow h v n xs) : RoRow h' v n xs := by
  obtain ⟨t, rfl⟩ := hp
  rcases hr with h1 | ⟨b, c, h1, h2, h3, h4⟩
  · exact .inl h1
  · exact .inr ⟨b, c, h1, h2, h3, by rw [List.getElem?_append_left (hp_lt h4)]; exact h4⟩
theorem Rep.mono {P : Program} {h h' : Hp} (hp : ∃ t, h' = h ++ t) : ∀ (k : Nat) (t : TypeId) (cs : List Value) (d : Dt), Rep P h k t cs d → Rep P h' k t cs d := by
  intro k
  induction k with
  | zero => intro t cs d hr; exact hr
  | succ k ih =>
    intro t cs d hr
    simp only [Rep] at hr ⊢
    split <;> rename_i hu <;> simp only [hu] at hr
    · exact hr
    · exact hr
    · exact hr
    · obtain ⟨v, xss, h1, h2, h3, h4, h5⟩ := hr
      exact ⟨v, xss, h1, h2.mono hp, h3, h4, fun i x d hx hd => ⟨(h5 i x d hx hd).1, ih _ _ _ (h5 i x d hx hd).2⟩⟩
    · obtain ⟨xss, h1, h2, h3, h4⟩ := hr
      exact ⟨xss, h1, h2, h3, fun i f x d hf hx hd => ⟨(h4 i f x d hf hx hd).1, ih _ _ _ (h4 i f x d hf hx hd).2⟩⟩

/-! ### opening -/
def Ro (h : Hp) : Prop := ∀ (b : Nat) (B : Blk), h[b]? = some B → B.rw = false
structure Ext (μ : Emb) (h : Hp) (w : World) (μ' : Emb) (h' : Hp) : Prop where
  sub : ∀ b, b < h.length → μ' b = μ b
  pre : ∃ t, h' = h ++ t
  rel : HRel μ' h' w
  ro : Ro h'
section
variable {P : Program} {μ μ' μ'' : Emb} {h h' h'' : Hp} {w : World}
theorem Ext.refl (hr : HRel μ h w) (ho : Ro h) : Ext μ h w μ h := ⟨fun _ _ => rfl, ⟨[], by simp⟩, hr, ho⟩
theorem Ext.trans (a : Ext μ h w μ' h') (b : Ext μ' h' w μ'' h'') : Ext μ h w μ'' h'' := by
  obtain ⟨t, rfl⟩ := a.pre
  obtain ⟨u, rfl⟩ := b.pre
  exact ⟨fun k hk => (b.sub k (by simp; omega)).trans (a.sub k hk), ⟨t ++ u, by simp⟩, b.rel, b.ro⟩
theorem Ext.up (hr : HRel μ h w) (a : Ext μ h w μ' h') (b : Nat) (e : Place) (hb : μ b = some e) : μ' b = some e := (a.sub b (hr.dom b e hb).1).trans hb
theorem Ext.new (hr : HRel μ h w) (ho : Ro h) {cs : List Value} {p : Place} (hp : p.block < w.heap.size) (hlen : p.ext = cs.length) (hc : ∀ (o : Nat) (v : Value), cs[o]? = some v → ∃ v', w.cell? ⟨p.block, p.off + o, none⟩ = some v' ∧ VRel μ v v') :
    Ext μ h w (μ.put h.length p) (h ++ [.cells cs true none]) := by
  have hup := Emb.put_old hr p
  have hget : ∀ b e C, (μ.put h.length p) b = some e → (h ++ [Blk.cells cs true none])[b]? = some C → (b = h.length ∧ e = p ∧ C = .cells cs true none) ∨ (b < h.length ∧ μ b = some e ∧ h[b]? = some C) := by
    intro b e C he hC
    by_cases hb : b = h.length
    · subst hb
      rw [Emb.put_new] at he
      rw [List.getElem?_append_right (Nat.le_refl _)] at hC
      simp at he hC
      exact .inl ⟨rfl, he.symm, hC.symm⟩
    · simp only [Emb.put, if_neg hb] at he
      have := (hr.dom b e he).1
      rw [List.getElem?_append_left this] at hC
      exact .inr ⟨this, he, hC⟩
  refine ⟨fun b hb => by simp only [Emb.put]; rw [if_neg (by omega)], ⟨_, rfl⟩, ⟨?_, ?_, ?_⟩, ?_⟩
  · intro b e he
    by_cases hb : b = h.length
    · subst hb; rw [Emb.put_new] at he; simp at he; subst he; simp; exact hp
    · simp only [Emb.put, if_neg hb] at he
      have := hr.dom b e he
      simp; omega
  · intro b e C he hC
    rcases hget b e C he hC with ⟨rfl, rfl, rfl⟩ | ⟨hb, he', hC'⟩
    · refine ⟨by omega, fun _ => hlen, fun _ h => by simp at h, fun o v hv => ?_, fun h => by simp at h⟩
      obtain ⟨v', h1, h2⟩ := hc o v hv
      exact ⟨v', h1, h2.mono hup⟩
    · exact (hr.obj b e C he' hC').congr hup (fun _ => rfl)
  · intro b c e f B C hbc he hf hB hC hrw hlv
    rcases hget b e B he hB with ⟨rfl, rfl, rfl⟩ | ⟨hb, he', hB'⟩
    · simp [Blk.rw] at hrw
    · have := ho b B hB'; rw [this] at hrw; simp at hrw
  · intro b B hB
    rw [List.getElem?_append] at hB
    split at hB
    · exact ho b B hB
    · rw [List.getElem?_cons] at hB
      split at hB
      · simp at hB; subst hB; rfl
      · simp at hB
theorem LRel.flatten : ∀ (xss css : List (List Value)), xss.length = css.length → (∀ (i : Nat) x c, xss[i]? = some x → css[i]? = some c → LRel μ x c) → LRel μ xss.flatten css.flatten := by
  intro xss
  induction xss with
  | nil => intro css hl _; cases css with | nil => exact LRel.nil | cons _ _ => simp at hl
  | cons x xss ih =>
    intro css hl hc
    cases css with
    | nil => simp at hl
    | cons c css =>
      simp only [List.flatten_cons]
      exact LRel.append (hc 0 x c rfl rfl) (ih css (by simpa using hl) fun i x' c' hx hc' => hc (i + 1) x' c' (by simpa using hx) (by simpa using hc'))
/-- things opened one by one -/
theorem open_list {k : Nat} : ∀ (ts : List (TypeId × List Value)), (∀ p ∈ ts, ∀ μ h, HRel μ h w → Ro h → ∃ μ' h' cs d, Ext μ h w μ' h' ∧ LRel μ' cs p.2 ∧ Rep P h' k p.1 cs d) → ∀ (μ : Emb) (h : Hp), HRel μ h w → Ro h →
    ∃ (μ' : Emb) (h' : Hp) (xss : List (List Value)) (ds : List Dt), Ext μ h w μ' h' ∧ xss.length = ts.length ∧ ds.length = ts.length ∧ ∀ (i : Nat) p x d, ts[i]? = some p → xss[i]? = some x → ds[i]? = some d → LRel μ' x p.2 ∧ Rep P h' k p.1 x d := by
  intro ts
  induction ts with
  | nil => intro _ μ h hr ho; exact ⟨μ, h, [], [], Ext.refl hr ho, rfl, rfl, by simp⟩
  | cons p ts ih =>
    intro hp μ h hr ho
    obtain ⟨μ1, h1, cs, d, e1, e2, e3⟩ := hp p (by simp) μ h hr ho
    obtain ⟨μ2, h2, xss, ds, f1, f2, f3, f4⟩ := ih (fun q hq => hp q (by simp [hq])) μ1 h1 e1.rel e1.ro
    refine ⟨μ2, h2, cs :: xss, d :: ds, e1.trans f1, by simp [f2], by simp [f3], ?_⟩
    intro i q x dd hq hx hd
    cases i with
    | zero =>
      simp at hq hx hd
      subst hq; subst hx; subst hd
      exact ⟨e2.mono (f1.up e1.rel), Rep.mono f1.pre _ _ _ _ e3⟩
    | succ i => exact f4 i q x dd (by simpa using hq) (by simpa using hx) (by simpa using hd)
theorem cells_inv {a : Addr} {n : Nat} {cs : List Value} (hc : w.cells? 0 a n = some cs) : cs.length = n ∧ ∀ j, j < n → w.cell? (a.add j) = cs[j]? := by
  unfold World.cells? at hc
  rw [if_pos (Nat.zero_le _)] at hc
  exact ⟨by simpa using mapM_some_length hc, fun j hj => mapM_some_get hc j j (by simp [hj])⟩
theorem add_add' (a : Addr) (i j : Nat) : (a.add i).add j = a.add (i + j) := by
  unfold Addr.add
  by_cases hi : i = 0 <;> by_cases hj : j = 0 <;> simp [hi, hj, Nat.add_assoc]
theorem cell_block {a : Addr} {v : Value} (hc : w.cell? a = some v) : a.block < w.heap.size ∧ a.spot = none := by
  unfold World.cell? at hc
  split at hc
  · rename_i h
    refine ⟨(Array.getElem?_eq_some_iff.1 h).1, ?_⟩
    split at hc
    · simp at hc
    · rename_i h2; simpa using h2
  · simp at hc
theorem offs_cells : ∀ (fs : List Field) (o : Nat) (cs : List Value), offsOk P fs o cs.length = true → o ≤ cs.length →
    (fs.map fun f => (cs.drop f.offset).take (P.cellsOf f.type)).flatten = cs.drop o ∧ ∀ f ∈ fs, f.offset + P.cellsOf f.type ≤ cs.length := by
  intro fs
  induction fs with
  | nil => intro o cs h _; simp [offsOk] at h; subst h; simp
  | cons f fs ih =>
    intro o cs h ho
    simp only [offsOk, Bool.and_eq_true, Nat.beq_eq] at h
    obtain ⟨h1, h2⟩ := h
    have hle : o + P.cellsOf f.type ≤ cs.length := by
      clear ih
      revert h2
      generalize o + P.cellsOf f.type = m
      intro h2
      clear h1 ho
      induction fs generalizing m with
      | nil => simp [offsOk] at h2; omega
      | cons g gs ih2 =>
        simp only [offsOk, Bool.and_eq_true] at h2
        have := ih2 _ h2.2
        omega
    obtain ⟨i1, i2⟩ := ih _ cs h2 hle
    refine ⟨?_, ?_⟩
    · rw [List.map_cons, List.flatten_cons, i1, h1]
      rw [← List.drop_drop, List.take_append_drop]
    · intro g hg
      rcases List.mem_cons.1 hg with rfl | hg
      · rw [h1]; exact hle
      · exact i2 g hg
theorem mem_weightsAll {H : Type} {e : TypeId} : ∀ (ds : List (DataW H)) (d : DataW H), d ∈ ds → ∀ n ∈ d.weights P e, n ∈ DataW.weightsAll P e ds := by
  intro ds
  induction ds with
  | nil => intro d hd; simp at hd
  | cons x ds ih =>
    intro d hd n hn
    simp only [DataW.weightsAll, List.mem_append]
    rcases List.mem_cons.1 hd with rfl | hd
    · exact .inl hn
    · exact .inr (ih d hd n hn)
theorem bs_of (s : ByteArray) : s = bs s.data.toList := by rw [bs_self]
theorem open_cells {H : Type} {enc : TypeId × Value → H} : ∀ (k : Nat) (t : TypeId) (cs : List Value) (fuel : Nat) (x : DataW H × List MemPlace), dataT P k t = true → DataW.trod enc P w 0 (fun _ => true) true fuel t cs = some x →
    (∀ n ∈ x.1.weights P t, n ≤ reachBytes) → ∀ (μ : Emb) (h : Hp), HRel μ h w → Ro h → ∃ μ' h' acs d, Ext μ h w μ' h' ∧ LRel μ' acs cs ∧ Rep P h' k t acs d := by
  intro k
  induction k with
  | zero => intro t cs fuel x hd; cases hd
  | succ k ih =>
    intro t cs fuel x hd hx hw μ h hr ho
    simp only [dataT] at hd
    split at hd
    · rename_i hu
      obtain ⟨b, rfl, rfl⟩ := DataW.trod_bool hu hx
      exact ⟨μ, h, [.bool b], .b b, Ext.refl hr ho, LRel.cons (.bool b) LRel.nil, by simp [Rep, hu]⟩
    · rename_i hu
      obtain ⟨s, rfl, rfl, hs⟩ := DataW.trod_string hu hx
      have hl : s.data.toList.length ≤ reachBytes := hw _ (by simp [DataW.weights])
      refine ⟨μ, h, [.string s], .s s.data.toList, Ext.refl hr ho, LRel.cons (.string s) LRel.nil, ?_⟩
      simp only [Rep, hu]
      exact ⟨by rw [bs_self], hl⟩
    · rename_i q hu
      obtain ⟨n, rfl, rfl, hn⟩ := DataW.trod_int hu hx
      simp only [Lit.wf, Bool.and_eq_true, decide_eq_true_eq] at hn
      refine ⟨μ, h, [.int q n], .i n, Ext.refl hr ho, LRel.cons (.int q n) LRel.nil, ?_⟩
      simp only [Rep, hu]
      exact ⟨trivial, hn⟩
    · rename_i e hu
      simp only [Bool.and_eq_true] at hd
      have hz := Nat.le_of_ble_eq_true hd.1.1
      have hby := Nat.le_of_ble_eq_true hd.1.2
      have hd2 := hd.2
      rcases DataW.trod_slice hu hx with ⟨rfl, rfl⟩ | ⟨a, len, cap, elems, rest, m, rfl, rfl, rfl, _, hlc, hcm, hel, hget, hsp, _⟩
      · refine ⟨μ, h, [.slice none 0 0], .l [], Ext.refl hr ho, LRel.cons .sl0 LRel.nil, ?_⟩
        simp only [Rep, hu]
        exact ⟨_, [], rfl, .inl ⟨.inl rfl, rfl, rfl⟩, rfl, Nat.zero_le _, by simp⟩
      · obtain ⟨hrl, hrest⟩ := hsp rfl
        simp only at hw
        simp only [DataW.weights, hu, List.mem_cons, List.mem_append, List.length_map] at hw
        have hcap : cap ≤ reachBytes := by
          have h1 := hw _ (.inl rfl)
          have h2 : (elems.length + rest.length) * 1 ≤ (elems.length + rest.length) * P.bytesOf e := Nat.mul_le_mul_left _ hby
          omega
        have hcapO : cap < capO := by simp only [reachBytes] at hcap; simp only [capO]; omega
        by_cases hc0 : cap = 0
        · have hl0 : len = 0 := by omega
          subst hc0; subst hl0
          refine ⟨μ, h, [.slice (some ⟨0, 0, some 0⟩) 0 0], .l [], Ext.refl hr ho, LRel.cons (.slD a) LRel.nil, ?_⟩
          simp only [Rep, hu]
          exact ⟨_, [], rfl, .inl ⟨.inr rfl, rfl, rfl⟩, rfl, Nat.zero_le _, by simp⟩
        · -- the first cell is there
          have hfirst : a.block < w.heap.size ∧ a.spot = none := by
            have key : ∃ c, w.cells? 0 (a.add (0 * P.cellsOf e)) (P.cellsOf e) = some c := by
              by_cases hl : len = 0
              · have h1 := hrest 0 (by omega)
                rw [hl] at h1
                have h2 : ∃ y, rest[0]? = some y := ⟨rest[0]'(by omega), List.getElem?_eq_getElem _⟩
                obtain ⟨y, hy⟩ := h2
                rw [hy] at h1
                obtain ⟨c, hc, _⟩ := Option.bind_eq_some_iff.1 h1
                exact ⟨c, by simpa using hc⟩
              · have h1 := hget 0 (by omega)
                have h2 : ∃ y, elems[0]? = some y := ⟨elems[0]'(by omega), List.getElem?_eq_getElem _⟩
                obtain ⟨y, hy⟩ := h2
                rw [hy] at h1
                obtain ⟨c, hc, _⟩ := Option.bind_eq_some_iff.1 h1
                exact ⟨c, hc⟩
            obtain ⟨c, hc⟩ := key
            obtain ⟨hl, hg⟩ := cells_inv hc
            have h3 := hg 0 hz
            have h4 : ∃ v, c[0]? = some v := ⟨c[0]'(by omega), List.getElem?_eq_getElem _⟩
            obtain ⟨v, hv⟩ := h4
            rw [hv] at h3
            have := cell_block h3
            simpa [Addr.add] using this
          -- the elements
          let ts : List (TypeId × List Value) := (List.range len).map fun i => (e, (w.cells? 0 (a.add (i * P.cellsOf e)) (P.cellsOf e)).getD [])
          have hts : ∀ i, i < len → ∃ c y, ts[i]? = some (e, c) ∧ w.cells? 0 (a.add (i * P.cellsOf e)) (P.cellsOf e) = some c ∧ elems[i]? = some y ∧ DataW.trod enc P w 0 (fun _ => true) true m e c = some y := by
            intro i hi
            have h1 := hget i hi
            have h2 : elems[i]? = some (elems[i]'(by omega)) := List.getElem?_eq_getElem _
            rw [h2] at h1
            obtain ⟨c, hc, hy⟩ := Option.bind_eq_some_iff.1 h1
            exact ⟨c, _, by simp [ts, hi, hc], hc, h2, hy⟩
          obtain ⟨μ1, h1, xss, ds, e1, e2, e3, e4⟩ := open_list (P := P) (w := w) (k := k) ts (by
            intro p hp μ h hr ho
            obtain ⟨i, hi⟩ := List.mem_iff_getElem?.1 hp
            have hil : i < len := by
              rcases Nat.lt_or_ge i len with h' | h'
              · exact h'
              · rw [List.getElem?_eq_none (by simp [ts]; omega)] at hi; simp at hi
            obtain ⟨c, y, g1, g2, g3, g4⟩ := hts i hil
            rw [g1] at hi
            simp at hi; subst hi
            refine ih e c m y hd2 g4 (fun n hn => ?_) μ h hr ho
            exact hw n (.inr (.inl (mem_weightsAll _ y.1 (List.mem_map.2 ⟨y, List.mem_of_getElem? g3, rfl⟩) n hn)))) μ h hr ho
          have hxl : xss.length = len := by rw [e2]; simp [ts]
          have hdl : ds.length = len := by rw [e3]; simp [ts]
          have hsz : ∀ (i : Nat) x, xss[i]? = some x → x.length = P.cellsOf e := by
            intro i x hx
            have hi : i < len := by rw [← hxl]; exact (List.getElem?_eq_some_iff.1 hx).1
            obtain ⟨c, y, g1, g2, _, _⟩ := hts i hi
            have := (e4 i _ x _ g1 hx (List.getElem?_eq_getElem (by omega))).1.1
            rw [this, (cells_inv g2).1]
          have hcell : ∀ (o : Nat) (v : Value), xss.flatten[o]? = some v → ∃ v', w.cell? ⟨a.block, a.off + o, none⟩ = some v' ∧ VRel μ1 v v' := by
            have hL : LRel μ1 xss.flatten (ts.map (·.2)).flatten := LRel.flatten _ _ (by simp [e2]) (by
              intro i x c hx hc
              rw [List.getElem?_map] at hc
              obtain ⟨p, hp, rfl⟩ := Option.map_eq_some_iff.1 hc
              have hi : i < ds.length := by rw [hdl, ← hxl]; exact (List.getElem?_eq_some_iff.1 hx).1
              exact (e4 i p x _ hp hx (List.getElem?_eq_getElem hi)).1)
            have hflat : ∀ (n : Nat), n ≤ len → ∀ o v', ((ts.take n).map (·.2)).flatten[o]? = some v' → w.cell? ⟨a.block, a.off + o, none⟩ = some v' ∧ o < n * P.cellsOf e := by
              intro n
              induction n with
              | zero => intro _ o v' ho; simp at ho
              | succ n ihn =>
                intro hn o v' ho'
                obtain ⟨c, y, g1, g2, _, _⟩ := hts n (by omega)
                rw [List.take_add_one, g1] at ho'
                simp only [Option.toList_some, List.map_append, List.map_cons, List.map_nil, List.flatten_append, List.flatten_cons, List.flatten_nil, List.append_nil] at ho'
                have hlen : ((ts.take n).map (·.2)).flatten.length = n * P.cellsOf e := by
                  have : ∀ (m : Nat), m ≤ len → ((ts.take m).map (·.2)).flatten.length = m * P.cellsOf e := by
                    intro m
                    induction m with
                    | zero => intro _; simp
                    | succ m ihm =>
                      intro hm
                      obtain ⟨c', _, g1', g2', _, _⟩ := hts m (by omega)
                      rw [List.take_add_one, g1']
                      simp only [Option.toList_some, List.map_append, List.map_cons, List.map_nil, List.flatten_append, List.flatten_cons, List.flatten_nil, List.append_nil, List.length_append]
                      rw [ihm (by omega), (cells_inv g2').1, Nat.add_mul]; omega
                  exact this n (by omega)
                rw [List.getElem?_append] at ho'
                split at ho'
                · have := ihn (by omega) o v' ho'
                  refine ⟨this.1, ?_⟩
                  rw [Nat.add_mul]; omega
                · rename_i hge
                  rw [hlen] at ho' hge
                  obtain ⟨k1, k2⟩ := cells_inv g2
                  have hj : o - n * P.cellsOf e < P.cellsOf e := by have hjj := (List.getElem?_eq_some_iff.1 ho').1; omega
                  have := k2 _ hj
                  rw [ho', add_add'] at this
                  rw [show n * P.cellsOf e + (o - n * P.cellsOf e) = o by omega] at this
                  refine ⟨?_, by rw [Nat.add_mul]; omega⟩
                  rw [← this]
                  congr 1
                  obtain ⟨ab, ao, asp⟩ := a
                  have hsp := hfirst.2
                  simp at hsp
                  subst hsp
                  unfold Addr.add
                  by_cases h0 : o = 0 <;> simp [h0]
            intro o v hv
            obtain ⟨v', hv', hrel⟩ := hL.get hv
            have := hflat len (Nat.le_refl _) o v' (by rw [List.take_of_length_le (by simp [ts])]; exact hv')
            exact ⟨v', this.1, hrel⟩
          have hn := Ext.new e1.rel e1.ro (cs := xss.flatten) (p := ⟨a.block, a.off, xss.flatten.length, 0⟩) hfirst.1 rfl hcell
          refine ⟨_, _, [.slice (some ⟨h1.length, 0, none⟩) len cap], .l ds, e1.trans hn, LRel.cons ?_ LRel.nil, ?_⟩
          · have := VRel.sl (μ := μ1.put h1.length ⟨a.block, a.off, xss.flatten.length, 0⟩) (b := h1.length) 0 len cap (Emb.put_new _ _ _) hcapO hlc
            obtain ⟨ab, ao, asp⟩ := a
            have hsp := hfirst.2
            simp at hsp
            subst hsp
            simpa using this
          · simp only [Rep, hu]
            refine ⟨_, xss, rfl, .inr ⟨h1.length, cap, by rw [hdl], by omega, hcap, by simp⟩, by omega, by omega, fun i x d hx hd => ⟨hsz i x hx, ?_⟩⟩
            have hi : i < len := by rw [← hxl]; exact (List.getElem?_eq_some_iff.1 hx).1
            obtain ⟨c, y, g1, _, _, _⟩ := hts i hi
            exact Rep.mono hn.pre _ _ _ _ (e4 i _ x d g1 hx hd).2
    · rename_i fs hu
      simp only [Bool.and_eq_true, List.all_eq_true] at hd
      obtain ⟨hd1, hd2⟩ := hd
      obtain ⟨xs, m, rfl, rfl, hlen, hxl, hget⟩ := DataW.trod_struct hu hx
      rw [← hlen] at hd2
      obtain ⟨o1, o2⟩ := offs_cells fs.toList 0 cs hd2 (Nat.zero_le _)
      simp only [List.drop_zero] at o1
      let ts : List (TypeId × List Value) := fs.toList.map fun f => (f.type, (cs.drop f.offset).take (P.cellsOf f.type))
      have hflat : (ts.map (·.2)).flatten = cs := by rw [← o1]; simp only [ts, List.map_map]; rfl
      simp only [DataW.weights, hu] at hw
      obtain ⟨μ1, h1, xss, ds, e1, e2, e3, e4⟩ := open_list (P := P) (w := w) (k := k) ts (by
        intro p hp μ h hr ho
        obtain ⟨i, hi⟩ := List.mem_iff_getElem?.1 hp
        simp only [ts, List.getElem?_map] at hi
        obtain ⟨f, hf, rfl⟩ := Option.map_eq_some_iff.1 hi
        have hg := hget i f (by simpa using hf)
        have hil : i < xs.length := by rw [hxl]; have := (List.getElem?_eq_some_iff.1 hf).1; simpa using this
        rw [List.getElem?_eq_getElem hil] at hg
        refine ih f.type _ m _ (hd1 f (List.mem_of_getElem? hf)) hg (fun n hn => ?_) μ h hr ho
        refine hw n (DataW.weights_mem_each (j := i) (t := f.type) (d := (xs[i]).1) (by rw [List.getElem?_map, hf]; rfl) (by rw [List.getElem?_map, List.getElem?_eq_getElem hil]; rfl) n hn)) μ h hr ho
      have hxl2 : xss.length = fs.toList.length := by rw [e2]; simp [ts]
      have hdl2 : ds.length = fs.toList.length := by rw [e3]; simp [ts]
      refine ⟨μ1, h1, xss.flatten, .st ds, e1, ?_, ?_⟩
      · rw [← hflat]
        refine LRel.flatten _ _ (by simp [e2]) ?_
        intro i x c hx hc
        rw [List.getElem?_map] at hc
        obtain ⟨p, hp, rfl⟩ := Option.map_eq_some_iff.1 hc
        have hi : i < ds.length := by rw [hdl2, ← hxl2]; exact (List.getElem?_eq_some_iff.1 hx).1
        exact (e4 i p x _ hp hx (List.getElem?_eq_getElem hi)).1
      · simp only [Rep, hu]
        refine ⟨xss, rfl, hxl2, hdl2, fun i f x d hf hx hd => ?_⟩
        have hp : ts[i]? = some (f.type, (cs.drop f.offset).take (P.cellsOf f.type)) := by simp only [ts, List.getElem?_map, hf]; rfl
        have := e4 i _ x d hp hx hd
        refine ⟨?_, this.2⟩
        rw [this.1.1]
        have := o2 f (List.mem_of_getElem? hf)
        simp; omega
    · cases hd
/-- a parameter's value -/
def RepV (P : Program) (h : Hp) (k : Nat) (t : TypeId) (a : Value) (d : Dt) : Prop := ∃ cs, Rep P h k t cs d ∧ a = (match P.underlying t with | some (.struct _) => Value.agg cs.toArray | _ => cs.headD any)
def RepAll (P : Program) (h : Hp) (k : Nat) : List TypeId → List Value → List Dt → Prop
  | [], [], [] => True
  | t :: ts, a :: as, d :: ds => RepV P h k t a d ∧ RepAll P h k ts as ds
  | _, _, _ => False
theorem RepAll.mono {k : Nat} (hp : ∃ t, h' = h ++ t) : ∀ (ts : List TypeId) (as : List Value) (ds : List Dt), RepAll P h k ts as ds → RepAll P h' k ts as ds := by
  intro ts
  induction ts with
  | nil => intro as ds hr; cases as <;> cases ds <;> first | exact hr | exact hr.elim
  | cons t ts ih =>
    intro as ds hr
    cases as with
    | nil => cases ds <;> exact hr.elim
    | cons a as =>
      cases ds with
      | nil => exact hr.elim
      | cons d ds =>
        obtain ⟨⟨cs, h1, h2⟩, h3⟩ := hr
        exact ⟨⟨cs, Rep.mono hp _ _ _ _ h1, h2⟩, ih _ _ h3⟩
theorem Rep.one {k : Nat} {t : TypeId} {cs : List Value} {d : Dt} (hr : Rep P h k t cs d) (hs : ∀ fs, P.underlying t ≠ some (.struct fs)) : ∃ v, cs = [v] := by
  cases k with
  | zero => exact hr.elim
  | succ k =>
    simp only [Rep] at hr
    split at hr
    · exact ⟨_, hr⟩
    · exact ⟨_, hr.1⟩
    · exact ⟨_, hr.1⟩
    · obtain ⟨v, xss, h1, _⟩ := hr; exact ⟨v, h1⟩
    · exact absurd ‹_› (hs _)
    · exact hr.elim
theorem open_all {H : Type} {enc : TypeId × Value → H} {k base : Nat} : ∀ (ts : List TypeId) (vs : List Value) (ds : List (DataW H)) (p : List MemPlace), DataW.TrodAll enc P w 0 (fun _ => true) true ts vs ds p → ts.all (dataT P k) = true →
    (∀ n ∈ DataW.weightsEach P ts ds, n ≤ reachBytes) → (∀ (j : Nat) t v, ts[j]? = some t → vs[j]? = some v → Value.okWide P w .any base t v) → ∀ (μ : Emb) (h : Hp), HRel μ h w → Ro h →
    ∃ μ' h' as dts, Ext μ h w μ' h' ∧ LRel μ' as vs ∧ RepAll P h' k ts as dts := by
  intro ts
  induction ts with
  | nil =>
    intro vs ds p hA _ _ _ μ h hr ho
    cases vs with
    | cons _ _ => cases ds <;> exact hA.elim
    | nil =>
      cases ds with
      | cons _ _ => exact hA.elim
      | nil => exact ⟨μ, h, [], [], Ext.refl hr ho, LRel.nil, trivial⟩
  | cons t ts ih =>
    intro vs ds p hA hd hw hval μ h hr ho
    cases vs with
    | nil => cases ds <;> exact hA.elim
    | cons v vs =>
    cases ds with
    | nil => exact hA.elim
    | cons d ds =>
    obtain ⟨p1, p2, ⟨fuel, hx⟩, hA2, rfl⟩ := hA
    simp only [List.all_cons, Bool.and_eq_true] at hd
    simp only [DataW.weightsEach, List.mem_append] at hw
    obtain ⟨μ1, h1, acs, dt, e1, e2, e3⟩ := open_cells k t v.cells.toList fuel (d, p1) hd.1 hx (fun n hn => hw n (.inl hn)) μ h hr ho
    obtain ⟨μ2, h2, as, dts, f1, f2, f3⟩ := ih vs ds p2 hA2 hd.2 (fun n hn => hw n (.inr hn)) (fun j t' v' ht hv => hval (j + 1) t' v' (by simpa using ht) (by simpa using hv)) μ1 h1 e1.rel e1.ro
    have hv0 := hval 0 t v rfl rfl
    have key : ∃ a, VRel μ1 a v ∧ a = (match P.underlying t with | some (.struct _) => Value.agg acs.toArray | _ => acs.headD any) := by
      by_cases hst : ∃ fs, P.underlying t = some (.struct fs)
      · obtain ⟨fs, hu⟩ := hst
        simp only [hu]
        unfold Value.okWide at hv0
        simp only [hu] at hv0
        obtain ⟨cs, rfl, _, _⟩ := hv0
        refine ⟨_, ?_, rfl⟩
        exact LRel.agg (show ARel μ1 acs.toArray cs from by simpa [ARel, Value.cells] using e2)
      · have hs : ∀ fs, P.underlying t ≠ some (.struct fs) := fun fs hu => hst ⟨fs, hu⟩
        obtain ⟨a, rfl⟩ := e3.one hs
        refine ⟨a, ?_, ?_⟩
        · have hc : v.cells = #[v] := by
            cases v with
            | agg cs =>
              exfalso
              unfold Value.okWide at hv0
              have hdt := hd.1
              cases k with
              | zero => cases hdt
              | succ k =>
              simp only [dataT] at hdt
              split at hdt <;> first | (rename_i hu; simp only [hu, Cell.okWide, Cell.ok] at hv0; done) | (rename_i fs hu; exact hs fs hu) | (cases hdt)
            | _ => rfl
          rw [hc] at e2
          have := e2.2 0 a v rfl rfl
          exact this
        · split
          · rename_i fs hu; exact absurd hu (hs fs)
          · rfl
    obtain ⟨a, ha1, ha2⟩ := key
    exact ⟨μ2, h2, a :: as, dt :: dts, e1.trans f1, LRel.cons (ha1.mono (f1.up e1.rel)) f2, ⟨acs, Rep.mono f1.pre _ _ _ _ e3, ha2⟩, f3⟩
/-- **A law, wherever it is called, out of its data.** -/
theorem EvA.law {H : Type} {enc : TypeId × Value → H} {f : FuncId} {k base : Nat} {ts : List TypeId} {args : Array Value} {ds : List (DataW H)} {p : List MemPlace} {W : World}
    (he : ∀ h as dts, RepAll P h k ts as dts → EvA P f as (fun r _ => r = .bool true) h)
    (hA : DataW.TrodAll enc P W 0 (fun _ => true) true ts args.toList ds p) (hd : ts.all (dataT P k) = true) (hw : (DataW.weightsEach P ts ds).all (· ≤ reachBytes) = true)
    (hval : ∀ (j : Nat) t v, ts[j]? = some t → args[j]? = some v → Value.okWide P W .any base t v) : Calls P f args W fun e w' => e = .returned (.bool true) ∧ Below W.heap.size W w' := by
  have hr0 : HRel (fun _ => none) [] W := ⟨fun b e h => by simp at h, fun b e B h => by simp at h, fun b c e f B C _ h => by simp at h⟩
  obtain ⟨μ, h, as, dts, e1, e2, e3⟩ := open_all ts args.toList ds p hA hd (fun n hn => by simpa using List.all_eq_true.1 hw n hn) (fun j t v ht hv => hval j t v ht (by simpa using hv)) _ _ hr0 (fun b B hB => by simp at hB)
  refine ((he h as dts e3).2 μ W args e1.rel e2).mono ?_
  rintro e w' ⟨μ', h', r, v, rfl, s, hrv, rfl⟩
  cases hrv
  have hno : ∀ k, ¬ Own μ h k := by rintro k ⟨b, e, B, _, hB, hrw, _⟩; have := e1.ro b B hB; rw [this] at hrw; simp at hrw
  exact ⟨rfl, ⟨s.keeps.os, s.keeps.tape, s.keeps.output, s.keeps.size, fun k hk => s.keeps.block k hk (hno k)⟩⟩
theorem carry_all {H : Type} {enc : TypeId × Value → H} (hl : laidOutB P = true) {W W' : World} (hb : Below W.heap.size W W') : ∀ (ts : List TypeId) (vs : List Value) (ds : List (DataW H)) (p : List MemPlace),
    ts.all (fun t => P.readableRec t && Nat.blt t P.types.size) = true → DataW.TrodAll enc P W 0 (fun _ => true) true ts vs ds p → (∀ x ∈ p, x.block < W.heap.size) → DataW.TrodAll enc P W' 0 (fun b => decide (b < W.heap.size)) true ts vs ds p := by
  intro ts
  induction ts with
  | nil => intro vs ds p _ hA _; cases vs <;> cases ds <;> first | exact hA | exact hA.elim
  | cons t ts ih =>
    intro vs ds p ht hA hlt
    cases vs with
    | nil => cases ds <;> exact hA.elim
    | cons v vs =>
    cases ds with
    | nil => exact hA.elim
    | cons d ds =>
    obtain ⟨p1, p2, hx, hA2, rfl⟩ := hA
    simp only [List.all_cons, Bool.and_eq_true] at ht
    exact ⟨p1, p2, Below.trod hl ht.1.1 (by simpa using ht.1.2) hx hb (fun x hx => hlt x (by simp [hx])), ih vs ds p2 ht.2 hA2 (fun x hx => hlt x (by simp [hx])), rfl⟩
end
end Go.Ab

/- What came in, told by types of Lean; no condition. -/
namespace Go.Ab
open Go.RowKit
section
variable {P : Program} {h h' : Hp} {k : Nat} {t e : TypeId}
theorem RoRow.row {v : Value} {n z : Nat} {xs : List Value} (hr : RoRow h v n xs) (hl : xs.length = n * z) : Row h z v n xs := by
  rcases hr with ⟨h1, rfl, rfl⟩ | ⟨b, c, rfl, h2, h3, h4⟩
  · rcases h1 with rfl | rfl
    · exact Row.nil
    · exact ⟨⟨_, _, rfl⟩, by simp [srcA], by simp⟩
  · refine ⟨⟨_, _, rfl⟩, ?_, hl⟩
    by_cases h0 : n = 0
    · subst h0; simp at hl; subst hl; simp [srcA]
    · simp [srcA, h0, h4, hl]
      exact List.take_of_length_le (by omega)
theorem Rep.bool {cs : List Value} {d : Dt} (hu : P.underlying t = some .bool) (hr : Rep P h k t cs d) : ∃ x, cs = [.bool x] := by
  cases k with
  | zero => exact hr.elim
  | succ k =>
    simp only [Rep, hu] at hr
    split at hr
    · rename_i h1; exact ⟨_, hr⟩
    all_goals first | (rename_i h1; simp at h1; done) | exact hr.elim
theorem Rep.int {cs : List Value} {d : Dt} {q : IntKind} (hu : P.underlying t = some (.int q)) (hr : Rep P h k t cs d) : ∃ n, cs = [.int q n] ∧ q.min ≤ n ∧ n ≤ q.max := by
  cases k with
  | zero => exact hr.elim
  | succ k =>
    cases d <;> simp only [Rep, hu] at hr
    exact ⟨_, hr⟩
theorem Rep.str {cs : List Value} {d : Dt} (hu : P.underlying t = some .string) (hr : Rep P h k t cs d) : ∃ l, cs = [.string (bs l)] ∧ l.length ≤ reachBytes := by
  cases k with
  | zero => exact hr.elim
  | succ k =>
    cases d <;> simp only [Rep, hu] at hr
    exact ⟨_, hr⟩
/-- a slice: its elements told by a type of Lean -/
theorem Rep.slice {α : Type} {cs : List Value} {d : Dt} {z : Nat} (cells : α → List Value) (good : α → Prop) (hu : P.underlying t = some (.slice e)) (hz : P.cellsOf e = z)
    (hel : ∀ k x d, x.length = z → Rep P h k e x d → ∃ y : α, x = cells y ∧ good y) (hr : Rep P h k t cs d) :
    ∃ (v : Value) (l : List α), cs = [v] ∧ RoRow h v l.length (l.flatMap cells) ∧ l.length ≤ reachBytes ∧ (∀ y ∈ l, good y) ∧ (l.flatMap cells).length = l.length * z := by
  cases k with
  | zero => exact hr.elim
  | succ k =>
    cases d <;> simp only [Rep, hu] at hr
    rename_i ds
    obtain ⟨v, xss, rfl, h1, h2, h3, h4⟩ := hr
    have key : ∀ (xss : List (List Value)) (ds : List Dt), xss.length = ds.length → (∀ (i : Nat) x d, xss[i]? = some x → ds[i]? = some d → x.length = P.cellsOf e ∧ Rep P h k e x d) →
        ∃ l : List α, l.length = ds.length ∧ xss.flatten = l.flatMap cells ∧ (∀ y ∈ l, good y) ∧ (l.flatMap cells).length = l.length * z := by
      intro xss
      induction xss with
      | nil => intro ds hl _; cases ds with | nil => exact ⟨[], rfl, rfl, by simp, by simp⟩ | cons _ _ => simp at hl
      | cons x xss ih =>
        intro ds hl hx
        cases ds with
        | nil => simp at hl
        | cons d ds =>
          obtain ⟨l, g1, g2, g3, g4⟩ := ih ds (by simpa using hl) fun i x' d' hx' hd' => hx (i + 1) x' d' (by simpa using hx') (by simpa using hd')
          have h0 := hx 0 x d rfl rfl
          obtain ⟨y, rfl, gy⟩ := hel k x d (by rw [h0.1, hz]) h0.2
          refine ⟨y :: l, by simp [g1], by simp [g2], ?_, ?_⟩
          · intro y' hy'
            rcases List.mem_cons.1 hy' with rfl | hy'
            · exact gy
            · exact g3 _ hy'
          · simp only [List.flatMap_cons, List.length_append, g4, List.length_cons, Nat.add_mul]
            rw [h0.1, hz]; omega
    obtain ⟨l, g1, g2, g3, g4⟩ := key xss ds h2 h4
    exact ⟨v, l, rfl, by rw [g1, ← g2]; exact h1, by omega, g3, g4⟩
/-- a struct, field by field -/
def RepFs (P : Program) (h : Hp) (k : Nat) : List Field → List Value → Prop
  | [], cs => cs = []
  | f :: fs, cs => ∃ x d cs', cs = x ++ cs' ∧ Rep P h k f.type x d ∧ RepFs P h k fs cs'
theorem Rep.struct {cs : List Value} {d : Dt} {fs : Array Field} (hu : P.underlying t = some (.struct fs)) (hr : Rep P h k t cs d) : ∃ k, RepFs P h k fs.toList cs := by
  cases k with
  | zero => exact hr.elim
  | succ k =>
    cases d <;> simp only [Rep, hu] at hr
    rename_i ds
    obtain ⟨xss, rfl, h2, h3, h4⟩ := hr
    refine ⟨k, ?_⟩
    generalize fs.toList = l at h2 h3 h4
    induction l generalizing xss ds with
    | nil =>
      cases xss with
      | nil => simp [RepFs]
      | cons _ _ => simp at h2
    | cons f l ih =>
      cases xss with
      | nil => simp at h2
      | cons x xss =>
      cases ds with
      | nil => simp at h3
      | cons d ds =>
      exact ⟨x, d, xss.flatten, rfl, (h4 0 f x d rfl rfl rfl).2, ih ds xss (by simpa using h2) (by simpa using h3) fun i f x d hf hx hd => h4 (i + 1) f x d (by simpa using hf) (by simpa using hx) (by simpa using hd)⟩
theorem flatMap_one {α β : Type} (f : α → β) (l : List α) : l.flatMap (fun x => [f x]) = l.map f := by
  induction l with
  | nil => rfl
  | cons x l ih => simp [ih]
theorem Rep.strs {cs : List Value} {d : Dt} (hu : P.underlying t = some (.slice e)) (he : P.underlying e = some .string) (hz : P.cellsOf e = 1) (hr : Rep P h k t cs d) :
    ∃ (v : Value) (l : List (List UInt8)), cs = [v] ∧ RoRow h v l.length (l.map fun x => .string (bs x)) ∧ l.length ≤ reachBytes ∧ ∀ y ∈ l, y.length ≤ reachBytes := by
  obtain ⟨v, l, h1, h2, h3, h4, _⟩ := Rep.slice (fun x => [Value.string (bs x)]) (fun x => x.length ≤ reachBytes) hu hz (fun k x d _ hr => Rep.str he hr) hr
  exact ⟨v, l, h1, by rw [← flatMap_one]; exact h2, h3, h4⟩
theorem Rep.ints {cs : List Value} {d : Dt} {q : IntKind} (hu : P.underlying t = some (.slice e)) (he : P.underlying e = some (.int q)) (hz : P.cellsOf e = 1) (hr : Rep P h k t cs d) :
    ∃ (v : Value) (l : List Int), cs = [v] ∧ RoRow h v l.length (l.map fun x => .int q x) ∧ l.length ≤ reachBytes ∧ ∀ y ∈ l, q.min ≤ y ∧ y ≤ q.max := by
  obtain ⟨v, l, h1, h2, h3, h4, _⟩ := Rep.slice (fun x => [Value.int q x]) (fun x => q.min ≤ x ∧ x ≤ q.max) hu hz (fun k x d _ hr => Rep.int he hr) hr
  exact ⟨v, l, h1, by rw [← flatMap_one]; exact h2, h3, h4⟩
theorem Rep.bytes {cs : List Value} {d : Dt} (hu : P.underlying t = some (.slice e)) (he : P.underlying e = some (.int .u8)) (hz : P.cellsOf e = 1) (hr : Rep P h k t cs d) :
    ∃ (v : Value) (l : List UInt8), cs = [v] ∧ RoRow h v l.length (l.map byteV) ∧ l.length ≤ reachBytes := by
  obtain ⟨v, l, h1, h2, h3, _, _⟩ := Rep.slice (fun x : UInt8 => [byteV x]) (fun _ => True) hu hz (fun k x d _ hr => by
    obtain ⟨n, rfl, g1, g2⟩ := Rep.int he hr
    simp [IntKind.min, IntKind.max, IntKind.signed, IntKind.bits] at g1 g2
    refine ⟨UInt8.ofNat n.toNat, ?_, trivial⟩
    have : n = ((n.toNat % 256 : Nat) : Int) := by omega
    simp [byteV]; omega) hr
  exact ⟨v, l, h1, by rw [← flatMap_one]; exact h2, h3⟩
/-! parameters -/
theorem RepAll.cons {ts : List TypeId} {vs : List Value} {ds : List Dt} (hr : RepAll P h k (t :: ts) vs ds) : ∃ a vs' d ds', vs = a :: vs' ∧ ds = d :: ds' ∧ RepV P h k t a d ∧ RepAll P h k ts vs' ds' := by
  cases vs with
  | nil => cases ds <;> exact hr.elim
  | cons a vs => cases ds with
    | nil => exact hr.elim
    | cons d ds => exact ⟨a, vs, d, ds, rfl, rfl, hr.1, hr.2⟩
theorem RepAll.nil {vs : List Value} {ds : List Dt} (hr : RepAll P h k [] vs ds) : vs = [] := by
  cases vs with
  | nil => rfl
  | cons a vs => cases ds <;> exact hr.elim
theorem RepV.one {a : Value} {d : Dt} (hs : ∀ fs, P.underlying t ≠ some (.struct fs)) (hr : RepV P h k t a d) : Rep P h k t [a] d := by
  obtain ⟨cs, h1, h2⟩ := hr
  obtain ⟨v, rfl⟩ := h1.one hs
  have : a = v := by
    rw [h2]; split
    · exact absurd ‹_› (hs _)
    · rfl
  rw [this]; exact h1
theorem RepV.bool {a : Value} {d : Dt} (hu : P.underlying t = some .bool) (hr : RepV P h k t a d) : ∃ x, a = .bool x := by
  obtain ⟨x, hx⟩ := Rep.bool hu (hr.one (by simp [hu])); simp at hx; exact ⟨x, hx⟩
theorem RepV.int {a : Value} {d : Dt} {q : IntKind} (hu : P.underlying t = some (.int q)) (hr : RepV P h k t a d) : ∃ n, a = .int q n ∧ q.min ≤ n ∧ n ≤ q.max := by
  obtain ⟨n, hx, hn⟩ := Rep.int hu (hr.one (by simp [hu])); simp at hx; exact ⟨n, hx, hn⟩
theorem RepV.str {a : Value} {d : Dt} (hu : P.underlying t = some .string) (hr : RepV P h k t a d) : ∃ l, a = .string (bs l) ∧ l.length ≤ reachBytes := by
  obtain ⟨n, hx, hn⟩ := Rep.str hu (hr.one (by simp [hu])); simp at hx; exact ⟨n, hx, hn⟩
theorem RepV.strs {a : Value} {d : Dt} (hu : P.underlying t = some (.slice e)) (he : P.underlying e = some .string) (hz : P.cellsOf e = 1) (hr : RepV P h k t a d) :
    ∃ l : List (List UInt8), RoRow h a l.length (l.map fun x => .string (bs x)) ∧ l.length ≤ reachBytes ∧ ∀ y ∈ l, y.length ≤ reachBytes := by
  obtain ⟨v, l, h1, h2⟩ := Rep.strs hu he hz (hr.one (by simp [hu])); simp at h1; subst h1; exact ⟨l, h2⟩
theorem RepV.ints {a : Value} {d : Dt} {q : IntKind} (hu : P.underlying t = some (.slice e)) (he : P.underlying e = some (.int q)) (hz : P.cellsOf e = 1) (hr : RepV P h k t a d) :
    ∃ l : List Int, RoRow h a l.length (l.map fun x => .int q x) ∧ l.length ≤ reachBytes ∧ ∀ y ∈ l, q.min ≤ y ∧ y ≤ q.max := by
  obtain ⟨v, l, h1, h2⟩ := Rep.ints hu he hz (hr.one (by simp [hu])); simp at h1; subst h1; exact ⟨l, h2⟩
theorem RepV.bytes {a : Value} {d : Dt} (hu : P.underlying t = some (.slice e)) (he : P.underlying e = some (.int .u8)) (hz : P.cellsOf e = 1) (hr : RepV P h k t a d) :
    ∃ l : List UInt8, RoRow h a l.length (l.map byteV) ∧ l.length ≤ reachBytes := by
  obtain ⟨v, l, h1, h2⟩ := Rep.bytes hu he hz (hr.one (by simp [hu])); simp at h1; subst h1; exact ⟨l, h2⟩
theorem RepV.slice {α : Type} {a : Value} {d : Dt} {z : Nat} (cells : α → List Value) (good : α → Prop) (hu : P.underlying t = some (.slice e)) (hz : P.cellsOf e = z)
    (hel : ∀ k x d, x.length = z → Rep P h k e x d → ∃ y : α, x = cells y ∧ good y) (hr : RepV P h k t a d) :
    ∃ l : List α, RoRow h a l.length (l.flatMap cells) ∧ l.length ≤ reachBytes ∧ (∀ y ∈ l, good y) ∧ (l.flatMap cells).length = l.length * z := by
  obtain ⟨v, l, h1, h2⟩ := Rep.slice cells good hu hz hel (hr.one (by simp [hu])); simp at h1; subst h1; exact ⟨l, h2⟩
theorem RepV.struct {a : Value} {d : Dt} {fs : Array Field} (hu : P.underlying t = some (.struct fs)) (hr : RepV P h k t a d) : ∃ cs k, a = .agg cs.toArray ∧ RepFs P h k fs.toList cs := by
  obtain ⟨cs, h1, h2⟩ := hr
  obtain ⟨k, hk⟩ := Rep.struct hu h1
  exact ⟨cs, k, by rw [h2, hu], hk⟩
end
end Go.Ab

/- Rows by their places: where an element lies, what is read there, what is written; no condition. -/
namespace Go.Ab
open Go.RowKit
/-- the block of a slice, and where it begins -/
def rbl : Value → Nat
  | .slice (some a) _ _ => a.block
  | _ => 0
def rof : Value → Nat
  | .slice (some a) _ _ => a.off
  | _ => 0
section
variable {P : Program} {h h' h'' : Hp} {n z k : Nat} {S : Nat → Prop}
theorem Row.place {v : Value} {xs : List Value} (hr : Row h z v n xs) (hk : k < n) : ∃ c cs ro op, v = .slice (some ⟨rbl v, rof v, none⟩) n c ∧ h[rbl v]? = some (.cells cs ro op) ∧ rof v + n * z ≤ cs.length ∧ xs = (cs.drop (rof v)).take (n * z) := by
  obtain ⟨⟨a, c, rfl⟩, hs, hl⟩ := hr
  obtain ⟨_, ⟨h0, _⟩ | ⟨_, b, o, cs, ro, op, rfl, hB, hle, hx⟩⟩ := srcA_inv (v := .nilFunc) hs
  · omega
  · exact ⟨c, cs, ro, op, rfl, hB, hle, hx⟩
/-- where an element lies -/
theorem Row.ia {t e : TypeId} {v : Value} {xs : List Value} (hr : Row h z v n xs) (ht : P.underlying t = some (.slice e)) (he : sizeT P e = some z) (hk : k < n) (q : IntKind) :
    indexAddrA P t v (.int q (k : Int)) = some (.pointer (some ⟨rbl v, rof v + k * z, none⟩)) := by
  obtain ⟨c, cs, ro, op, hv, _⟩ := hr.place hk
  generalize rbl v = b at hv ⊢
  generalize rof v = o at hv ⊢
  subst hv
  rw [indexAddr_at ht he rfl hk]
theorem Row.ia1 {t e : TypeId} {v : Value} {xs : List Value} (hr : Row h 1 v n xs) (ht : P.underlying t = some (.slice e)) (he : sizeT P e = some 1) (hk : k < n) (q : IntKind) :
    indexAddrA P t v (.int q (k : Int)) = some (.pointer (some ⟨rbl v, rof v + k, none⟩)) := by
  rw [hr.ia ht he hk q]; simp
/-- what is read there -/
theorem Row.ldc {f : TypeId} {v : Value} {xs : List Value} {j : Nat} (hr : Row h z v n xs) (hf : aggT P f = some false) (hk : k < n) (hj : j < z) :
    loadA P f (.pointer (some ⟨rbl v, rof v + k * z + j, none⟩)) h = xs[k * z + j]? := by
  obtain ⟨c, cs, ro, op, hv, hB, hle, hx⟩ := hr.place hk
  have : (k + 1) * z ≤ n * z := Nat.mul_le_mul_right z hk
  rw [Nat.add_mul] at this
  simp only [loadA, hB, hf]
  rw [hx, List.getElem?_take, if_pos (by omega), List.getElem?_drop, Nat.add_assoc]
theorem Row.ld1 {f : TypeId} {v : Value} {xs : List Value} (hr : Row h 1 v n xs) (hf : aggT P f = some false) (hk : k < n) :
    loadA P f (.pointer (some ⟨rbl v, rof v + k, none⟩)) h = xs[k]? := by
  have := hr.ldc (j := 0) hf hk (by omega)
  simpa using this
theorem Row.lda {e : TypeId} {v : Value} {xs : List Value} (hr : Row h z v n xs) (ha : aggT P e = some true) (he : sizeT P e = some z) (hk : k < n) :
    loadA P e (.pointer (some ⟨rbl v, rof v + k * z, none⟩)) h = some (.agg ((xs.drop (k * z)).take z).toArray) := by
  obtain ⟨c, cs, ro, op, hv, hB, hle, hx⟩ := hr.place hk
  have : (k + 1) * z ≤ n * z := Nat.mul_le_mul_right z hk
  rw [Nat.add_mul] at this
  simp only [loadA, hB, ha, he]
  rw [if_pos (by omega), hx, List.drop_take, List.take_take, Nat.min_eq_left (by omega), List.drop_drop]
theorem Row.inRow {v : Value} {xs : List Value} (hr : Row h z v n xs) (hk : k < n) : inRow v (rbl v) := by
  obtain ⟨c, cs, ro, op, hv, _⟩ := hr.place hk
  exact ⟨_, _, _, hv, rfl⟩
theorem inRow_rbl {v : Value} {j : Nat} (hj : inRow v j) : j = rbl v := by
  obtain ⟨a, m, c, rfl, rfl⟩ := hj; rfl

theorem Row.lt {v : Value} {xs : List Value} (hr : Row h z v n xs) (h0 : 0 < n) : rbl v < h.length := by
  obtain ⟨c, cs, ro, op, hv, hB, _⟩ := hr.place h0
  exact hp_lt hB
/-- other blocks have changed -/
theorem Row.keep {v : Value} {xs : List Value} (hr : Row h z v n xs) (u : Upd S h h') (hn : 0 < n → ¬ S (rbl v)) : Row h' z v n xs := by
  rcases Nat.eq_zero_or_pos n with rfl | h0
  · obtain ⟨⟨a, c, rfl⟩, hs, hl⟩ := hr
    refine ⟨⟨a, c, rfl⟩, ?_, hl⟩
    have hx : xs = [] := List.eq_nil_of_length_eq_zero (by rw [hl]; simp)
    subst hx
    unfold srcA at hs ⊢
    split at hs <;> first | rfl | (rename_i he; cases he; simp; done) | (rename_i he; cases he) | (simp at hs)
  · exact hr.upd u fun j hj => by rw [inRow_rbl hj]; exact hn h0
theorem Row.box {v : Value} {xs : List Value} (hr : Row h z v n xs) (g : Hp) : boxA v g = some (.pointer (some ⟨g.length, 0, none⟩), g ++ [.cells [v] false none]) := by
  obtain ⟨⟨a, c, rfl⟩, _⟩ := hr
  rfl
theorem Row.one {v : Value} {xs : List Value} (hr : Row h z v n xs) : cellsOf v = some [v] ∧ oneA v = true := by
  obtain ⟨⟨a, c, rfl⟩, _⟩ := hr
  exact ⟨rfl, rfl⟩
/-! rows of texts -/
def str (l : List UInt8) : Value := .string (bs l)
def SRow (h : Hp) (v : Value) (l : List (List UInt8)) : Prop := Row h 1 v l.length (l.map str)
theorem RoRow.strs {v : Value} {l : List (List UInt8)} (hr : RoRow h v l.length (l.map fun x => .string (bs x))) : SRow h v l := hr.row (by simp)
theorem SRow.same {v : Value} {l : List (List UInt8)} (hr : SRow h v l) (u : Same h h') : SRow h' v l := Row.same hr u
theorem SRow.upd {v : Value} {l : List (List UInt8)} (hr : SRow h v l) (u : Upd S h h') (hn : ∀ k, inRow v k → ¬ S k) : SRow h' v l := Row.upd hr u hn
theorem SRow.keep {v : Value} {l : List (List UInt8)} (hr : SRow h v l) (u : Upd S h h') (hn : 0 < l.length → ¬ S (rbl v)) : SRow h' v l := Row.keep hr u hn
theorem SRow.len {t e : TypeId} {v : Value} {l : List (List UInt8)} (hr : SRow h v l) (ht : P.underlying t = some (.slice e)) : lenA P t v h = some (.int .i64 (l.length : Nat)) := Row.len hr ht
theorem SRow.ia {t e : TypeId} {v : Value} {l : List (List UInt8)} (hr : SRow h v l) (ht : P.underlying t = some (.slice e)) (he : sizeT P e = some 1) (hk : k < l.length) (q : IntKind) :
    indexAddrA P t v (.int q (k : Int)) = some (.pointer (some ⟨rbl v, rof v + k, none⟩)) := Row.ia1 hr ht he hk q
theorem SRow.ld {f : TypeId} {v : Value} {l : List (List UInt8)} (hr : SRow h v l) (hf : aggT P f = some false) (hk : k < l.length) :
    loadA P f (.pointer (some ⟨rbl v, rof v + k, none⟩)) h = some (.string (bs l[k])) := by
  rw [Row.ld1 hr hf hk, List.getElem?_map, List.getElem?_eq_getElem hk]; rfl

/-! rows of elements of several cells -/
def TRow {α : Type} (h : Hp) (z : Nat) (v : Value) (l : List α) (cells : α → List Value) : Prop := Row h z v l.length (l.flatMap cells) ∧ ∀ y ∈ l, (cells y).length = z
theorem flatMap_at {α : Type} {cells : α → List Value} {z : Nat} : ∀ (l : List α), (∀ y ∈ l, (cells y).length = z) → ∀ k (hk : k < l.length), ((l.flatMap cells).drop (k * z)).take z = cells l[k] := by
  intro l
  induction l with
  | nil => intro _ k hk; simp at hk
  | cons x l ih =>
    intro hz k hk
    have hx := hz x (by simp)
    cases k with
    | zero => simp [List.flatMap_cons, ← hx]
    | succ k =>
      rw [List.flatMap_cons, show (k + 1) * z = (cells x).length + k * z by rw [hx, Nat.add_mul]; omega, ← List.drop_drop, List.drop_left]
      exact ih (fun y hy => hz y (by simp [hy])) k (by simpa using hk)
theorem RoRow.rows {α : Type} {cells : α → List Value} {z : Nat} {v : Value} {l : List α} (hr : RoRow h v l.length (l.flatMap cells)) (hz : ∀ y ∈ l, (cells y).length = z) (hl : (l.flatMap cells).length = l.length * z) : TRow h z v l cells := ⟨hr.row hl, hz⟩
theorem TRow.same {α : Type} {cells : α → List Value} {v : Value} {l : List α} (hr : TRow h z v l cells) (u : Same h h') : TRow h' z v l cells := ⟨hr.1.same u, hr.2⟩
theorem TRow.upd {α : Type} {cells : α → List Value} {v : Value} {l : List α} (hr : TRow h z v l cells) (u : Upd S h h') (hn : ∀ k, inRow v k → ¬ S k) : TRow h' z v l cells := ⟨hr.1.upd u hn, hr.2⟩
theorem TRow.keep {α : Type} {cells : α → List Value} {v : Value} {l : List α} (hr : TRow h z v l cells) (u : Upd S h h') (hn : 0 < l.length → ¬ S (rbl v)) : TRow h' z v l cells := ⟨hr.1.keep u hn, hr.2⟩
theorem TRow.len {α : Type} {cells : α → List Value} {t e : TypeId} {v : Value} {l : List α} (hr : TRow h z v l cells) (ht : P.underlying t = some (.slice e)) : lenA P t v h = some (.int .i64 (l.length : Nat)) := hr.1.len ht
theorem TRow.ia {α : Type} {cells : α → List Value} {t e : TypeId} {v : Value} {l : List α} (hr : TRow h z v l cells) (ht : P.underlying t = some (.slice e)) (he : sizeT P e = some z) (hk : k < l.length) (q : IntKind) :
    indexAddrA P t v (.int q (k : Int)) = some (.pointer (some ⟨rbl v, rof v + k * z, none⟩)) := hr.1.ia ht he hk q
theorem TRow.agg {α : Type} {cells : α → List Value} {e : TypeId} {v : Value} {l : List α} (hr : TRow h z v l cells) (ha : aggT P e = some true) (he : sizeT P e = some z) (hk : k < l.length) :
    loadA P e (.pointer (some ⟨rbl v, rof v + k * z, none⟩)) h = some (.agg (cells l[k]).toArray) := by
  rw [hr.1.lda ha he hk, flatMap_at l hr.2 k hk]
theorem TRow.cell {α : Type} {cells : α → List Value} {f : TypeId} {v : Value} {l : List α} {j : Nat} (hr : TRow h z v l cells) (hf : aggT P f = some false) (hk : k < l.length) (hj : j < z) :
    loadA P f (.pointer (some ⟨rbl v, rof v + k * z + j, none⟩)) h = (cells l[k])[j]? := by
  rw [hr.1.ldc hf hk hj, ← flatMap_at l hr.2 k hk, List.getElem?_take, if_pos hj, List.getElem?_drop]
theorem TRow.cell0 {α : Type} {cells : α → List Value} {f : TypeId} {v : Value} {l : List α} (hr : TRow h z v l cells) (hf : aggT P f = some false) (hk : k < l.length) (hj : 0 < z) :
    loadA P f (.pointer (some ⟨rbl v, rof v + k * z, none⟩)) h = (cells l[k])[0]? := hr.cell (j := 0) hf hk hj

/-! rows that may be written: of this call's own, above the block k -/
def Wr (k : Nat) (h : Hp) (z : Nat) (v : Value) (n : Nat) (xs : List Value) : Prop :=
  xs.length = n * z ∧ ((v = .slice none 0 0 ∧ n = 0) ∨ (∃ b c, v = .slice (some ⟨b, 0, none⟩) 0 c ∧ c < capO ∧ n = 0) ∨
    ∃ b c rest op, v = .slice (some ⟨b, 0, none⟩) n c ∧ k ≤ b ∧ h[b]? = some (.cells (xs ++ rest) false op) ∧ ((n ≤ c ∧ c < capO) ∨ (capO + n ≤ c ∧ op = some z)))
theorem Acc.wr {v : Value} {xs : List Value} (ha : Acc k h z v n xs) : Wr k h z v n xs := by
  obtain ⟨hl, ⟨rfl, rfl⟩ | ⟨b, rfl, rfl, hk, hb⟩ | ⟨b, rfl, hk, hB⟩ | ⟨b, c, rest, op, rfl, hn, hc, hk, hB, hr⟩⟩ := ha
  · exact ⟨hl, .inl ⟨rfl, rfl⟩⟩
  · exact ⟨hl, .inr (.inl ⟨_, _, rfl, by simp [capO], rfl⟩)⟩
  · exact ⟨hl, .inr (.inr ⟨b, _, [], some z, rfl, hk, by simpa using hB, .inr ⟨Nat.le_refl _, rfl⟩⟩)⟩
  · exact ⟨hl, .inr (.inr ⟨b, _, rest, op, rfl, hk, hB, .inl ⟨hn, hc⟩⟩)⟩
theorem Wr.upd {v : Value} {xs : List Value} (ha : Wr k h z v n xs) (u : Upd S h h') (hn : ∀ k, inRow v k → ¬ S k) : Wr k h' z v n xs := by
  obtain ⟨hl, h1 | h1 | ⟨b, c, rest, op, rfl, hk, hB, hc⟩⟩ := ha
  · exact ⟨hl, .inl h1⟩
  · exact ⟨hl, .inr (.inl h1)⟩
  · exact ⟨hl, .inr (.inr ⟨b, c, rest, op, rfl, hk, u.at hB (hn b ⟨_, _, _, rfl, rfl⟩), hc⟩)⟩
theorem Wr.same {v : Value} {xs : List Value} (ha : Wr k h z v n xs) (u : Same h h') : Wr k h' z v n xs := ha.upd u (fun _ _ h => h)
theorem Wr.row {v : Value} {xs : List Value} (ha : Wr k h z v n xs) : Row h z v n xs := by
  obtain ⟨hl, ⟨rfl, rfl⟩ | ⟨b, c, rfl, _, rfl⟩ | ⟨b, c, rest, op, rfl, hk, hB, hc⟩⟩ := ha
  · simp at hl; subst hl; exact Row.nil
  · simp at hl; subst hl; exact Row.zero
  · refine ⟨⟨_, _, rfl⟩, ?_, hl⟩
    by_cases h0 : n = 0
    · subst h0; simp at hl; subst hl; simp [srcA]
    · simp [srcA, h0, hB, hl]
theorem Wr.above {v : Value} {xs : List Value} (ha : Wr k h z v n xs) (hn : 0 < n) : k ≤ rbl v ∧ rbl v < h.length := by
  obtain ⟨hl, ⟨_, h2⟩ | ⟨b, c, _, _, h2⟩ | ⟨b, c, rest, op, rfl, hk, hB, hc⟩⟩ := ha
  · omega
  · omega
  · exact ⟨hk, hp_lt hB⟩
/-- an element of one cell is written -/
theorem Wr.store1 {e : TypeId} {v x : Value} {xs : List Value} {j : Nat} (ha : Wr k h 1 v n xs) (hs : sizeT P e = some 1) (hx : oneA x = true) (hj : j < n) :
    ∃ h', storeA P e (.pointer (some ⟨rbl v, rof v + j, none⟩)) x h = some h' ∧ Wr k h' 1 v n (xs.set j x) ∧ Upd (· = rbl v) h h' ∧ h'.length = h.length := by
  obtain ⟨hl, ⟨_, h2⟩ | ⟨b, c, _, _, h2⟩ | ⟨b, c, rest, op, rfl, hk, hB, hcc⟩⟩ := ha
  · omega
  · omega
  · have hlt := hp_lt hB
    have hc : cellsOf x = some [x] := by cases x <;> simp_all [oneA, cellsOf]
    refine ⟨h.set b (.cells ((xs ++ rest).set j x) false op), ?_, ⟨by simpa using hl, .inr (.inr ⟨b, c, rest, op, rfl, hk, ?_, hcc⟩)⟩, Upd.set (S := (· = b)) rfl _, by simp⟩
    · simp only [storeA, rbl, rof, hB, hc, hs]
      rw [if_pos ⟨rfl, by simp; omega, by simp [hx]⟩]
      simp [spl]
    · rw [List.getElem?_set_self hlt, List.set_append_left _ _ (by omega)]
/-- one cell of an element of several is written -/
theorem Wr.storec {e : TypeId} {v x : Value} {xs : List Value} {i j : Nat} (ha : Wr k h z v n xs) (hs : sizeT P e = some 1) (hx : oneA x = true) (hi : i < n) (hj : j < z) :
    ∃ h', storeA P e (.pointer (some ⟨rbl v, rof v + i * z + j, none⟩)) x h = some h' ∧ Wr k h' z v n (xs.set (i * z + j) x) ∧ Upd (· = rbl v) h h' ∧ h'.length = h.length := by
  obtain ⟨hl, ⟨_, h2⟩ | ⟨b, c, _, _, h2⟩ | ⟨b, c, rest, op, rfl, hk, hB, hcc⟩⟩ := ha
  · omega
  · omega
  · have hlt := hp_lt hB
    have hc : cellsOf x = some [x] := by cases x <;> simp_all [oneA, cellsOf]
    have : (i + 1) * z ≤ n * z := Nat.mul_le_mul_right z hi
    rw [Nat.add_mul] at this
    refine ⟨h.set b (.cells ((xs ++ rest).set (i * z + j) x) false op), ?_, ⟨by simpa using hl, .inr (.inr ⟨b, c, rest, op, rfl, hk, ?_, hcc⟩)⟩, Upd.set (S := (· = b)) rfl _, by simp⟩
    · simp only [storeA, rbl, rof, hB, hc, hs]
      rw [if_pos ⟨rfl, by simp; omega, by simp [hx]⟩]
      simp [spl]
    · rw [List.getElem?_set_self hlt, List.set_append_left _ _ (by omega)]
theorem spl_mid (ys : List Value) : ∀ (xs rest : List Value) (o : Nat), o + ys.length ≤ xs.length → spl (xs ++ rest) o ys = (xs.take o ++ ys ++ xs.drop (o + ys.length)) ++ rest := by
  intro xs rest o h
  have h1 : xs ++ rest = xs.take o ++ (xs.drop o ++ rest) := by rw [← List.append_assoc, List.take_append_drop]
  have h2 : (xs.take o).length = o := by simp; omega
  have h3 := spl_append ys (xs.take o) (xs.drop o ++ rest) (by simp; omega)
  rw [h2] at h3
  rw [h1, h3, List.drop_append_of_le_length (by simp; omega), List.drop_drop]
  simp
/-- an element of several cells is written whole -/
theorem Wr.storea {e : TypeId} {v : Value} {ys : List Value} {xs : List Value} {i : Nat} (ha : Wr k h z v n xs) (hs : sizeT P e = some z) (hy : ys.length = z) (hx : ys.all oneA = true) (hi : i < n) :
    ∃ h', storeA P e (.pointer (some ⟨rbl v, rof v + i * z, none⟩)) (.agg ys.toArray) h = some h' ∧ Wr k h' z v n (xs.take (i * z) ++ ys ++ xs.drop (i * z + z)) ∧ Upd (· = rbl v) h h' ∧ h'.length = h.length := by
  obtain ⟨hl, ⟨_, h2⟩ | ⟨b, c, _, _, h2⟩ | ⟨b, c, rest, op, rfl, hk, hB, hcc⟩⟩ := ha
  · omega
  · omega
  · have hlt := hp_lt hB
    have : (i + 1) * z ≤ n * z := Nat.mul_le_mul_right z hi
    rw [Nat.add_mul] at this
    refine ⟨h.set b (.cells (spl (xs ++ rest) (i * z) ys) false op), ?_, ⟨by simp; omega, .inr (.inr ⟨b, c, rest, op, rfl, hk, ?_, hcc⟩)⟩, Upd.set (S := (· = b)) rfl _, by simp⟩
    · simp only [storeA, rbl, rof, hB, cellsOf, hs]
      rw [if_pos ⟨by simp [hy], by simp; omega, by simpa using hx⟩]
      simp
    · rw [List.getElem?_set_self hlt, spl_mid ys xs rest _ (by omega), hy]
/-- the beginning -/
theorem Wr.hi {t e : TypeId} {v : Value} {xs : List Value} {q : IntKind} {m : Nat} (ha : Wr k h z v n xs) (ht : P.underlying t = some (.slice e)) (he : sizeT P e = some z) (hm : m ≤ n) :
    ∃ v', sliceA P t v none (some (.int q (m : Int))) none h = some v' ∧ Wr k h z v' m (xs.take (m * z)) ∧ ∀ k, inRow v' k → inRow v k := by
  obtain ⟨hl, ⟨rfl, rfl⟩ | ⟨b, c, rfl, hc, rfl⟩ | ⟨b, c, rest, op, rfl, hk, hB, hc⟩⟩ := ha
  · have : m = 0 := by omega
    subst this
    exact ⟨.slice none 0 0, by simp [sliceA, ht, he], ⟨by simp, .inl ⟨rfl, rfl⟩⟩, fun _ h => h⟩
  · have : m = 0 := by omega
    subst this
    refine ⟨.slice (some ⟨b, 0, none⟩) 0 c, by simp [sliceA, ht, he, hc], ⟨by simp, .inr (.inl ⟨b, c, rfl, hc, rfl⟩)⟩, fun _ h => h⟩
  · have hmz : m * z ≤ n * z := Nat.mul_le_mul_right z hm
    have hB' : h[b]? = some (.cells (xs.take (m * z) ++ (xs.drop (m * z) ++ rest)) false op) := by rw [← List.append_assoc, List.take_append_drop]; exact hB
    have hlen : (xs.take (m * z)).length = m * z := by simp; omega
    rcases hc with ⟨h1, h2⟩ | ⟨h1, rfl⟩
    · refine ⟨.slice (some ⟨b, 0, none⟩) m c, ?_, ⟨hlen, .inr (.inr ⟨b, c, _, op, rfl, hk, hB', .inl ⟨by omega, h2⟩⟩)⟩, ?_⟩
      · have h3 : (m : Int) ≤ c := by omega
        simp [sliceA, ht, he, h2, h3]
      · rintro j ⟨a, p, r, he', rfl⟩; cases he'; exact ⟨_, _, _, rfl, rfl⟩
    · have hnc : ¬ c < capO := by omega
      have h4 : (m : Int) ≤ (c - capO : Nat) := by omega
      refine ⟨.slice (some ⟨b, 0, none⟩) m c, ?_, ⟨hlen, .inr (.inr ⟨b, c, _, some z, rfl, hk, hB', .inr ⟨by omega, rfl⟩⟩)⟩, ?_⟩
      · simp only [sliceA, ht, he, hnc, if_false, bnds_h]
        rw [if_pos ⟨by omega, h4⟩]
        simp [hB]
        omega
      · rintro j ⟨a, p, r, he', rfl⟩; cases he'; exact ⟨_, _, _, rfl, rfl⟩
theorem zeros_rep (x : Value) (n : Nat) : zeros [x] n = List.replicate n x := by
  induction n with
  | zero => rfl
  | succ n ih => simp only [zeros, ih, List.replicate_succ]; rfl
/-- from a place on all is cleared -/
theorem Wr.clearFrom {t e : TypeId} {v x : Value} {xs : List Value} {q : IntKind} {m : Nat} (ha : Wr k h 1 v n xs) (ht : P.underlying t = some (.slice e)) (he : sizeT P e = some 1) (hz : zeroT P e = some [x]) (hx : oneA x = true) (hm : m ≤ n) :
    ∃ v' h', sliceA P t v (some (.int q (m : Int))) none none h = some v' ∧ clearA P t v' h = some h' ∧ Wr k h' 1 v n (xs.take m ++ List.replicate (n - m) x) ∧ Upd (· = rbl v) h h' := by
  obtain ⟨hl, ⟨rfl, rfl⟩ | ⟨b, c, rfl, hc, rfl⟩ | ⟨b, c, rest, op, rfl, hk, hB, hc⟩⟩ := ha
  · have : m = 0 := by omega
    subst this
    exact ⟨.slice none 0 0, h, by simp [sliceA, ht, he], by simp [clearA, ht], ⟨by simp, .inl ⟨rfl, rfl⟩⟩, Upd.refl⟩
  · have : m = 0 := by omega
    subst this
    refine ⟨.slice (some ⟨b, _, none⟩) 0 c, h, by simp [sliceA, ht, he, hc]; rfl, by simp [clearA, ht], ⟨by simp, .inr (.inl ⟨b, c, rfl, hc, rfl⟩)⟩, Upd.refl⟩
  · have hlt := hp_lt hB
    have hxs : xs.length = n := by omega
    have key : ∀ o c', (n - m ≠ 0 → o = m) → ∃ h', clearA P t (.slice (some ⟨b, o, none⟩) (n - m) c') h = some h' ∧ Wr k h' 1 (.slice (some ⟨b, 0, none⟩) n c) n (xs.take m ++ List.replicate (n - m) x) ∧ Upd (· = b) h h' := by
      intro o c' ho
      by_cases h0 : n - m = 0
      · have hmn : m = n := by omega
        refine ⟨h, by simp [clearA, ht, h0], ⟨by simp; omega, .inr (.inr ⟨b, c, rest, op, rfl, hk, ?_, hc⟩)⟩, Upd.refl⟩
        rw [h0, List.take_of_length_le (by omega)]; simpa using hB
      · have ho := ho h0
        subst ho
        have hsp := spl_mid (List.replicate (n - o) x) xs rest o (by simp; omega)
        have hd : xs.drop (o + (n - o)) = [] := List.drop_of_length_le (by omega)
        refine ⟨h.set b (.cells ((xs.take o ++ List.replicate (n - o) x) ++ rest) false op), ?_, ⟨by simp; omega, .inr (.inr ⟨b, c, rest, op, rfl, hk, by rw [List.getElem?_set_self hlt], hc⟩)⟩, Upd.set (S := (· = b)) rfl _⟩
        simp only [clearA, ht, h0, if_false, hB, he, hz, zeros_rep]
        rw [if_pos ⟨rfl, by simp; omega, by simp [hx]⟩]
        simp only [List.length_replicate] at hsp
        rw [hsp, hd]; simp
    rcases hc with ⟨h1, h2⟩ | ⟨h1, rfl⟩
    · obtain ⟨h', e1, e2, e3⟩ := key (if c = m then 0 else m) (c - m) (fun hne => by rw [if_neg (by omega)])
      refine ⟨_, h', ?_, e1, e2, e3⟩
      have h3 : (m : Int) ≤ n := by omega
      simp [sliceA, ht, he, h2, h3]
    · have hnc : ¬ c < capO := by omega
      obtain ⟨h', e1, e2, e3⟩ := key m (capO + (c - capO - m)) (fun _ => rfl)
      refine ⟨_, h', ?_, e1, e2, e3⟩
      have h3 : (m : Int) ≤ n := by omega
      simp [sliceA, ht, he, hnc, h3, hB]
theorem Wr.since {h0 : Hp} {v : Value} (hk : h0.length ≤ rbl v) (hs : Same h0 h) (hu : Upd (· = rbl v) h h') : Same h0 h' :=
  Upd.trans hs hu fun j hj hin => absurd hin (by omega)
end
end Go.Ab
namespace Go.Ab
section
variable {P : Program} {h : Hp} {n : Nat} {fr : Fr} {Q : QA}
/-- a round has ended: what is to be shown is left as it is -/
theorem rq (I : Nat → Fr → Hp → Prop) (k : Nat) : roundQ I k Q .normal fr h = stop (∃ m, m < k ∧ I m fr h) .mk := Eq.trans rfl rfl
theorem stop_intro {p : Prop} {d : Lazy p} (hp : p) : stop p d := hp
end
end Go.Ab
namespace Go.Ab
/-- a slice that is not nil, or one without elements -/
theorem row_nil {h : Hp} {z n : Nat} {v : Value} {xs : List Value} (hv : Row h z v n xs) : (v = .slice none 0 0 ∧ n = 0) ∨ ∃ a c, v = .slice (some a) n c := by
  obtain ⟨⟨a, c, rfl⟩, hs, hl⟩ := hv
  cases a with
  | some a => exact .inr ⟨a, c, rfl⟩
  | none =>
    unfold srcA at hs
    split at hs
    · rename_i he; cases he; exact .inl ⟨rfl, rfl⟩
    · rename_i he; cases he
    · rename_i he; cases he
    · rename_i he; cases he
    · simp at hs
@[simp] theorem nat_not_neg (n : Nat) : ((n : Int) < 0) = False := by simp
/-- what is put behind an empty literal -/
theorem Acc.appendLit {P : Program} {h : Hp} {z k b by_ : Nat} {m : Nat} {t tx e : TypeId} {dx : TypeDesc} {x : Value} {ys : List Value} (hkb : k ≤ b) (hb' : b < h.length)
    (ht : P.underlying t = some (.slice e)) (hi : infoT P e = some (z, by_, z)) (htx : P.underlying tx = some dx) (hsx : isSrc dx = true) (hs : srcA z x h = some (m, ys)) (hy : ys.length = m * z)
    (hb : m * by_ ≤ 140737488355328) (hc : m < 4611686018427387904) :
    ∃ v' h', appendA P t tx (.slice (some ⟨b, 0, none⟩) 0 0) x h = some (v', h') ∧ Acc k h' z v' m ys ∧ Same h h' ∧ (∀ j, inRow v' j → j = b ∨ h.length ≤ j) := by
  by_cases hm : m = 0
  · subst hm
    simp at hy; subst hy
    refine ⟨.slice (some ⟨b, 0, none⟩) 0 0, h, ?_, ⟨by simp, .inr (.inl ⟨b, rfl, rfl, hkb, hb'⟩)⟩, Upd.refl, fun j hj => .inl (inRow_rbl hj)⟩
    simp [appendA, ht, hi, htx, hsx, hs]
  · refine ⟨(growA z ys (0 + m) h).1, (growA z ys (0 + m) h).2, ?_, ?_, Upd.new _, fun j hj => .inr ?_⟩
    · simp only [appendA, ht, hi, htx, hsx, hs]
      simp [hm, growA, capO, oldsA]; omega
    · exact ⟨hy, .inr (.inr (.inl ⟨h.length, by simp [growA], by omega, by simp [growA]⟩))⟩
    · have := inRow_rbl hj
      simp [growA, rbl] at this; omega
theorem load_at {P : Program} {h : Hp} {b o : Nat} {cs : List Value} {ro : Bool} {op : Option Nat} {t : TypeId} (hB : h[b]? = some (.cells cs ro op)) (ha : aggT P t = some false) : loadA P t (.pointer (some ⟨b, o, none⟩)) h = cs[o]? := by
  simp only [loadA, hB, ha]
end Go.Ab
namespace Go.Ab
section
variable {P : Program} {h h' : Hp} {n z k : Nat}
/-- what lies in a row that grows may be turned -/
theorem Acc.put {v : Value} {xs : List Value} (ha : Acc k h z v n xs) (h0 : 0 < n) : ∃ c rest op, v = .slice (some ⟨rbl v, 0, none⟩) n c ∧ h[rbl v]? = some (.cells (xs ++ rest) false op) ∧ xs.length = n * z ∧
    ∀ xs', xs'.length = xs.length → Acc k (h.set (rbl v) (.cells (xs' ++ rest) false op)) z v n xs' := by
  obtain ⟨hl, ⟨rfl, rfl⟩ | ⟨b, rfl, rfl, hk, hb⟩ | ⟨b, rfl, hk, hB⟩ | ⟨b, c, rest, op, rfl, hn, hc, hk, hB, hr⟩⟩ := ha
  · omega
  · omega
  · have hlt := hp_lt hB
    refine ⟨_, [], some z, rfl, by simpa [rbl] using hB, hl, fun xs' hx => ⟨by omega, .inr (.inr (.inl ⟨b, rfl, hk, ?_⟩))⟩⟩
    simp [rbl, hlt]
  · have hlt := hp_lt hB
    refine ⟨_, rest, op, rfl, by simpa [rbl] using hB, hl, fun xs' hx => ⟨by omega, .inr (.inr (.inr ⟨b, c, rest, op, rfl, hn, hc, hk, ?_, by simp at hr ⊢; omega⟩))⟩⟩
    simp [rbl, hlt]
theorem cells_one {x : Value} (hx : oneA x = true) : cellsOf x = some [x] := by
  cases x <;> first | rfl | (exfalso; revert hx; simp [oneA])
theorem rof_zero {v : Value} {b c n : Nat} (hv : v = .slice (some ⟨b, 0, none⟩) n c) : rof v = 0 := by subst hv; rfl
/-- an element of several cells is written whole -/
theorem Acc.storea {e : TypeId} {v : Value} {ys : List Value} {xs : List Value} {i : Nat} (ha : Acc k h z v n xs) (hs : sizeT P e = some z) (hy : ys.length = z) (hx : ys.all oneA = true) (hi : i < n) :
    ∃ h', storeA P e (.pointer (some ⟨rbl v, rof v + i * z, none⟩)) (.agg ys.toArray) h = some h' ∧ Acc k h' z v n (xs.take (i * z) ++ ys ++ xs.drop (i * z + z)) ∧ Upd (· = rbl v) h h' ∧ h'.length = h.length := by
  obtain ⟨c, rest, op, hv, hB, hl, hput⟩ := ha.put (by omega)
  have : (i + 1) * z ≤ n * z := Nat.mul_le_mul_right z hi
  rw [Nat.add_mul] at this
  have hsp := spl_mid ys xs rest (i * z) (by omega)
  rw [hy] at hsp
  refine ⟨_, ?_, hput _ (by simp; omega), Upd.set (S := (· = rbl v)) rfl _, by simp⟩
  rw [rof_zero hv]
  simp only [storeA, hB, cellsOf, hs, Nat.zero_add]
  rw [if_pos ⟨by simp [hy], by simp; omega, by simpa using hx⟩, hsp]
/-- one cell is written -/
theorem Acc.storec {e : TypeId} {v x : Value} {xs : List Value} {i j : Nat} (ha : Acc k h z v n xs) (hs : sizeT P e = some 1) (hx : oneA x = true) (hi : i < n) (hj : j < z) :
    ∃ h', storeA P e (.pointer (some ⟨rbl v, rof v + i * z + j, none⟩)) x h = some h' ∧ Acc k h' z v n (xs.set (i * z + j) x) ∧ Upd (· = rbl v) h h' ∧ h'.length = h.length := by
  obtain ⟨c, rest, op, hv, hB, hl, hput⟩ := ha.put (by omega)
  have : (i + 1) * z ≤ n * z := Nat.mul_le_mul_right z hi
  rw [Nat.add_mul] at this
  have hc : cellsOf x = some [x] := cells_one hx
  refine ⟨_, ?_, hput (xs.set (i * z + j) x) (by simp), Upd.set (S := (· = rbl v)) rfl _, by simp⟩
  rw [rof_zero hv]
  simp only [storeA, hB, hc, hs, Nat.zero_add]
  rw [if_pos ⟨rfl, by simp; omega, by simp [hx]⟩]
  simp only [spl]
  rw [List.set_append_left _ _ (by omega)]
/-- its beginning is overwritten -/
theorem Acc.copyIn {t e : TypeId} {v x : Value} {m : Nat} {xs ys : List Value} (ha : Acc k h z v n xs) (ht : P.underlying t = some (.slice e)) (he : sizeT P e = some z) (hs : srcA z x h = some (m, ys)) (hy : ys.length = m * z) (ho : ys.all oneA = true) (hm : m ≤ n) (h0 : 0 < n) :
    ∃ h', copyA P t v x h = some (.int .i64 (m : Nat), h') ∧ Acc k h' z v n (ys ++ xs.drop (m * z)) ∧ Upd (· = rbl v) h h' ∧ h'.length = h.length := by
  obtain ⟨c, rest, op, hv, hB, hl, hput⟩ := ha.put h0
  have hmz : m * z ≤ n * z := Nat.mul_le_mul_right z hm
  have hsp := spl_mid ys xs rest 0 (by omega)
  simp only [List.take_zero, List.nil_append, Nat.zero_add, hy] at hsp
  refine ⟨_, ?_, hput (ys ++ xs.drop (m * z)) (by simp; omega), Upd.set (S := (· = rbl v)) rfl _, by simp⟩
  have hmin : min m n = m := Nat.min_eq_left hm
  have htk : ys.take (m * z) = ys := List.take_of_length_le (by omega)
  have hn0 : n ≠ 0 := by omega
  generalize hb : rbl v = b at hv hB ⊢
  subst hv
  simp only [copyA, ht, he, hs, hn0, if_false, hB, hmin, htk, Nat.zero_add]
  rw [if_pos ⟨by simp; omega, ho⟩, hsp]
end
end Go.Ab
