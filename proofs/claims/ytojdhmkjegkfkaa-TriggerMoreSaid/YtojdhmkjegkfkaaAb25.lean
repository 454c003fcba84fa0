/- Tree heaps: the words do what the list's words do; no condition. -/
import Derived.Test.YtojdhmkjegkfkaaAb24
namespace Go.Ab
open Go.RowKit
section
variable {P : Program}
theorem loadT_ok {t : TypeId} {p : Value} {h : HT} : loadT P t p h = loadA P t p h.hp := by
  unfold loadT loadA; simp only [HT.hp_get]; rfl
theorem srcT_ok {z : Nat} {x : Value} {h : HT} : srcT z x h = srcA z x h.hp := by
  unfold srcT srcA; simp only [HT.hp_get]; rfl
theorem oldsT_ok {z n b o : Nat} {h : HT} : oldsT z n b o h = oldsA z n b o h.hp := by
  unfold oldsT oldsA; simp only [HT.hp_get]; rfl
theorem lookupT_ok {t : TypeId} {m k : Value} {ok : Bool} {h : HT} : lookupT P t m k ok h = lookupA P t m k ok h.hp := by
  unfold lookupT lookupA; simp only [HT.hp_get]; rfl
theorem lenT_ok {t : TypeId} {x : Value} {h : HT} : lenT P t x h = lenA P t x h.hp := by
  unfold lenT lenA; simp only [HT.hp_get]; rfl
theorem sliceT_ok {t : TypeId} {x : Value} {lo hi mx : Option Value} {h : HT} : sliceT P t x lo hi mx h = sliceA P t x lo hi mx h.hp := by
  unfold sliceT sliceA; simp only [HT.hp_get]; rfl
theorem storeT_ok {t : TypeId} {p x : Value} {h : HT} {e : Eff} (hs : storeT P t p x h = some e) : storeA P t p x h.hp = some (e.on h.hp) := by
  unfold storeT at hs
  unfold storeA
  simp only [HT.hp_get]
  repeat' split at hs
  all_goals first | (simp at hs; done) | (simp at hs; subst hs; simp [*, Eff.on])
theorem clearT_ok {t : TypeId} {x : Value} {h : HT} {e : Eff} (hs : clearT P t x h = some e) : clearA P t x h.hp = some (e.on h.hp) := by
  unfold clearT at hs
  unfold clearA
  simp only [HT.hp_get, HT.hp_len]
  repeat' split at hs
  all_goals first | (simp at hs; done) | (simp at hs; subst hs; simp [*, Eff.on]) | (simp at hs; obtain ⟨rfl, rfl⟩ := hs; simp [*, Eff.on, HT.hp_len])
theorem deleteT_ok {t : TypeId} {m k : Value} {h : HT} {e : Eff} (hs : deleteT P t m k h = some e) : deleteA P t m k h.hp = some (e.on h.hp) := by
  unfold deleteT at hs
  unfold deleteA
  simp only [HT.hp_get, HT.hp_len]
  repeat' split at hs
  all_goals first | (simp at hs; done) | (simp at hs; subst hs; simp [*, Eff.on]) | (simp at hs; obtain ⟨rfl, rfl⟩ := hs; simp [*, Eff.on, HT.hp_len])
theorem rangeT_ok {t : TypeId} {x : Value} {h : HT} {v : Value} {e : Eff} (hs : rangeT P t x h = some (v, e)) : rangeA P t x h.hp = some (v, e.on h.hp) := by
  unfold rangeT at hs
  unfold rangeA
  simp only [HT.hp_get, HT.hp_len]
  repeat' split at hs
  all_goals first | (simp at hs; done) | (simp at hs; subst hs; simp [*, Eff.on]) | (simp at hs; obtain ⟨rfl, rfl⟩ := hs; simp [*, Eff.on, HT.hp_len])
theorem convT_ok {s d : TypeId} {x : Value} {h : HT} {v : Value} {e : Eff} (hs : convT P s d x h = some (v, e)) : convA P s d x h.hp = some (v, e.on h.hp) := by
  unfold convT at hs
  unfold convA
  simp only [HT.hp_get, HT.hp_len]
  repeat' split at hs
  all_goals first | (simp at hs; done) | (simp at hs; subst hs; simp [*, Eff.on]) | (simp at hs; obtain ⟨rfl, rfl⟩ := hs; simp [*, Eff.on, HT.hp_len])
theorem nextT_ok {it : Value} {b : Bool} {h : HT} {v : Value} {e : Eff} (hs : nextT it b h = some (v, e)) : nextA it b h.hp = some (v, e.on h.hp) := by
  unfold nextT at hs
  unfold nextA
  simp only [HT.hp_get]
  repeat' split at hs
  all_goals first | (simp at hs; done) | (simp at hs; obtain ⟨rfl, rfl⟩ := hs; simp [*, Eff.on])
theorem copyT_ok {t : TypeId} {d x : Value} {h : HT} {v : Value} {e : Eff} (hs : copyT P t d x h = some (v, e)) : copyA P t d x h.hp = some (v, e.on h.hp) := by
  unfold copyT at hs
  unfold copyA
  simp only [srcT_ok] at hs
  simp only [HT.hp_get]
  repeat' split at hs
  all_goals first | (simp at hs; done) | (simp at hs; obtain ⟨rfl, rfl⟩ := hs; simp [*, Eff.on])
theorem mapUpdateT_ok {t : TypeId} {m k x : Value} {h : HT} {e : Eff} (hs : mapUpdateT P t m k x h = some e) : mapUpdateA P t m k x h.hp = some (e.on h.hp) := by
  unfold mapUpdateT at hs
  unfold mapUpdateA
  simp only [HT.hp_get]
  repeat' split at hs
  all_goals first | (simp at hs; done) | (obtain ⟨es, h1, rfl⟩ := Option.map_eq_some_iff.1 hs; simp [*, Eff.on])
set_option maxHeartbeats 2000000 in
theorem appendT_ok {t tx : TypeId} {x y : Value} {h : HT} {v : Value} {e : Eff} (hs : appendT P t tx x y h = some (v, e)) : appendA P t tx x y h.hp = some (v, e.on h.hp) := by
  unfold appendT at hs
  unfold appendA
  simp only [srcT_ok, oldsT_ok, growT] at hs
  simp only [HT.hp_get, growA, HT.hp_len]
  repeat' split at hs
  all_goals first | (simp at hs; done) | (simp at hs; obtain ⟨rfl, rfl⟩ := hs; simp [*, Eff.on, HT.hp_len])
end
end Go.Ab
