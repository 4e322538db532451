/- Trees and ropes: what they hold. -/
import Derived.Test.YtkcdhdilifolfaaGreatEvB
namespace Go.Ev

@[simp] theorem beq_true_iff {a b : Nat} : Nat.beq a b = true ↔ a = b := by simp [Nat.beq_eq]
@[simp] theorem ble_true_iff {a b : Nat} : Nat.ble a b = true ↔ a ≤ b := by simp [Nat.ble_eq]
@[simp] theorem blt_true_iff {a b : Nat} : Nat.blt a b = true ↔ a < b := by simp [Nat.blt]; omega
@[simp] theorem beq_false_iff {a b : Nat} : Nat.beq a b = false ↔ a ≠ b := by rw [← Bool.not_eq_true, beq_true_iff]
@[simp] theorem ble_false_iff {a b : Nat} : Nat.ble a b = false ↔ b < a := by rw [← Bool.not_eq_true, ble_true_iff]; omega
@[simp] theorem blt_false_iff {a b : Nat} : Nat.blt a b = false ↔ b ≤ a := by rw [← Bool.not_eq_true, blt_true_iff]; omega

theorem of_cond_some {α : Type} {b : Bool} {x : Option α} {r : α} (h : (bif b then x else none) = some r) : b = true ∧ x = some r := by
  cases b <;> simp_all
theorem of_cond_none {α : Type} {b : Bool} {x : Option α} {r : α} (h : (bif b then none else x) = some r) : b = false ∧ x = some r := by
  cases b <;> simp_all
theorem of_bind {α β : Type} {x : Option α} {f : α → Option β} {r : β} (h : x.bind f = some r) : ∃ a, x = some a ∧ f a = some r := by
  cases x with
  | none => simp at h
  | some a => exact ⟨a, rfl, h⟩

namespace Tree
variable {α : Type}
theorem get_setF (x : Option α) : ∀ (f n m : Nat) (t : Tree α), n < f → (setF x f n t).get m = if m = n then x else t.get m
  | 0, n, _, _, h => by omega
  | f + 1, n, m, .leaf, h => by
    have i1 := fun k (hk : k < f) => get_setF x f k (m / 2) .leaf hk
    have i2 := fun k (hk : k < f) => get_setF x f k (m / 2 - 1) .leaf hk
    simp only [setF]
    rcases Nat.eq_zero_or_pos n with rfl | hn
    · by_cases e : m = 0
      · subst e; simp [get]
      · simp [get, e, show Nat.beq m 0 = false from by simpa using e]
    · rw [show Nat.beq n 0 = false from by simp; omega]
      simp only [cond_false]
      rcases Nat.mod_two_eq_zero_or_one n with hp | hp
      · rw [show Nat.beq (n % 2) 1 = false from by simp; omega]
        simp only [cond_false, get]
        rcases Nat.eq_zero_or_pos m with rfl | hm
        · simp; omega
        · rw [show Nat.beq m 0 = false from by simp; omega]
          simp only [cond_false]
          rcases Nat.mod_two_eq_zero_or_one m with hq | hq
          · rw [show Nat.beq (m % 2) 1 = false from by simp; omega]
            simp only [cond_false]
            rw [i2 _ (by omega)]
            simp only [get]
            by_cases e : m = n
            · subst e; simp
            · rw [if_neg e, if_neg (by omega)]
          · rw [show Nat.beq (m % 2) 1 = true from by simp; omega]
            simp; omega
      · rw [show Nat.beq (n % 2) 1 = true from by simp; omega]
        simp only [cond_true, get]
        rcases Nat.eq_zero_or_pos m with rfl | hm
        · simp; omega
        · rw [show Nat.beq m 0 = false from by simp; omega]
          simp only [cond_false]
          rcases Nat.mod_two_eq_zero_or_one m with hq | hq
          · rw [show Nat.beq (m % 2) 1 = false from by simp; omega]
            simp; omega
          · rw [show Nat.beq (m % 2) 1 = true from by simp; omega]
            simp only [cond_true]
            rw [i1 _ (by omega)]
            simp only [get]
            by_cases e : m = n
            · subst e; simp
            · rw [if_neg e, if_neg (by omega)]
  | f + 1, n, m, .node l v r, h => by
    have i1 := fun k (hk : k < f) => get_setF x f k (m / 2) l hk
    have i2 := fun k (hk : k < f) => get_setF x f k (m / 2 - 1) r hk
    simp only [setF]
    rcases Nat.eq_zero_or_pos n with rfl | hn
    · by_cases e : m = 0
      · subst e; simp [get]
      · simp [get, e, show Nat.beq m 0 = false from by simpa using e]
    · rw [show Nat.beq n 0 = false from by simp; omega]
      simp only [cond_false]
      rcases Nat.mod_two_eq_zero_or_one n with hp | hp
      · rw [show Nat.beq (n % 2) 1 = false from by simp; omega]
        simp only [cond_false, get]
        rcases Nat.eq_zero_or_pos m with rfl | hm
        · simp; omega
        · rw [show Nat.beq m 0 = false from by simp; omega]
          simp only [cond_false]
          rcases Nat.mod_two_eq_zero_or_one m with hq | hq
          · rw [show Nat.beq (m % 2) 1 = false from by simp; omega]
            simp only [cond_false]
            rw [i2 _ (by omega)]
            by_cases e : m = n
            · subst e; simp
            · rw [if_neg e, if_neg (by omega)]
          · rw [show Nat.beq (m % 2) 1 = true from by simp; omega]
            simp; omega
      · rw [show Nat.beq (n % 2) 1 = true from by simp; omega]
        simp only [cond_true, get]
        rcases Nat.eq_zero_or_pos m with rfl | hm
        · simp; omega
        · rw [show Nat.beq m 0 = false from by simp; omega]
          simp only [cond_false]
          rcases Nat.mod_two_eq_zero_or_one m with hq | hq
          · rw [show Nat.beq (m % 2) 1 = false from by simp; omega]
            simp; omega
          · rw [show Nat.beq (m % 2) 1 = true from by simp; omega]
            simp only [cond_true]
            rw [i1 _ (by omega)]
            by_cases e : m = n
            · subst e; simp
            · rw [if_neg e, if_neg (by omega)]
theorem get_set (t : Tree α) (n m : Nat) (x : α) : (t.set n x).get m = if m = n then some x else t.get m := get_setF _ _ _ _ _ (by omega)
theorem get_del (t : Tree α) (n m : Nat) : (t.del n).get m = if m = n then none else t.get m := get_setF _ _ _ _ _ (by omega)
theorem get_set_same (t : Tree α) (n : Nat) (x : α) : (t.set n x).get n = some x := by rw [get_set, if_pos rfl]
theorem get_set_ne (t : Tree α) {n m : Nat} (x : α) (h : m ≠ n) : (t.set n x).get m = t.get m := by rw [get_set, if_neg h]
@[simp] theorem get_leaf (n : Nat) : (Tree.leaf : Tree α).get n = none := rfl

theorem half_get : ∀ (l : List α) (i : Nat), (half l)[i]? = l[2 * i]?
  | [], i => by simp [half]
  | [x], i => by
    cases i with
    | zero => simp [half]
    | succ i => simp [half, show 2 * (i + 1) = 2 * i + 1 + 1 from by omega]
  | x :: y :: l, i => by
    cases i with
    | zero => simp [half]
    | succ i => simp only [half, List.getElem?_cons_succ, half_get l i, show 2 * (i + 1) = 2 * i + 1 + 1 from by omega]
theorem half_length : ∀ (l : List α), (half l).length ≤ l.length
  | [] => by simp [half]
  | [x] => by simp [half]
  | x :: y :: l => by have := half_length l; simp [half]; omega
theorem get_ofListF : ∀ (f : Nat) (l : List α) (i : Nat), l.length < f → (ofListF f l).get i = l[i]?
  | 0, _, _, h => by omega
  | f + 1, [], i, _ => by simp [ofListF]
  | f + 1, x :: l, i, h => by
    have h1 := half_length l
    have h2 := half_length l.tail
    have h3 : l.tail.length ≤ l.length := by simp
    simp at h
    simp only [ofListF, get]
    rcases Nat.eq_zero_or_pos i with rfl | hi
    · simp
    · rw [show Nat.beq i 0 = false from by simp; omega]
      simp only [cond_false]
      obtain ⟨j, rfl⟩ : ∃ j, i = j + 1 := ⟨i - 1, by omega⟩
      rcases Nat.mod_two_eq_zero_or_one (j + 1) with hp | hp
      · rw [show Nat.beq ((j + 1) % 2) 1 = false from by simp; omega]
        simp only [cond_false]
        rw [get_ofListF f _ _ (by omega), half_get]
        cases l with
        | nil => simp
        | cons y l =>
          obtain ⟨q, rfl⟩ : ∃ q, j = q + 1 := ⟨j - 1, by omega⟩
          simp only [List.tail_cons, List.getElem?_cons_succ]
          congr 1; omega
      · rw [show Nat.beq ((j + 1) % 2) 1 = true from by simp; omega]
        simp only [cond_true]
        rw [get_ofListF f _ _ (by omega), half_get]
        simp only [List.getElem?_cons_succ]
        congr 1; omega
theorem get_ofList (l : List α) (i : Nat) : (ofList l).get i = l[i]? := get_ofListF _ _ _ (by omega)
end Tree

namespace Rope
variable {α : Type}
/-- The sizes that stand in a rope are right. -/
def Ok : Rope α → Prop
  | .cat n l r => n = l.size + r.size ∧ l.Ok ∧ r.Ok
  | _ => True
@[simp] theorem size_nil : (nil : Rope α).size = 0 := rfl
@[simp] theorem size_one (v : α) : (one v).size = 1 := rfl
@[simp] theorem size_lst (cs : List α) : (lst cs).size = cs.length := rfl
@[simp] theorem size_cat (n : Nat) (l r : Rope α) : (cat n l r).size = n := rfl
theorem size_eq : ∀ {r : Rope α}, r.Ok → r.size = r.toList.length
  | .nil, _ => rfl
  | .one _, _ => rfl
  | .lst _, _ => rfl
  | .cat n l r, h => by rw [size_cat, h.1, size_eq h.2.1, size_eq h.2.2]; simp [toList]
theorem get_eq : ∀ {r : Rope α} (i : Nat), r.Ok → r.get i = r.toList[i]?
  | .nil, _, _ => by simp [get, toList]
  | .one v, i, _ => by
    cases i with
    | zero => simp [get, toList]
    | succ i => simp [get, toList, show Nat.beq (i + 1) 0 = false from by simp]
  | .lst _, _, _ => rfl
  | .cat n l r, i, h => by
    have hs := size_eq h.2.1
    simp only [get, toList]
    by_cases hi : i < l.size
    · rw [show Nat.blt i l.size = true from by simpa]
      simp only [cond_true]
      rw [get_eq i h.2.1, List.getElem?_append_left (by omega)]
    · rw [show Nat.blt i l.size = false from by simpa using hi]
      simp only [cond_false]
      rw [get_eq _ h.2.2, List.getElem?_append_right (by omega), hs]
theorem ext_ok : ∀ {r : Rope α} (off k : Nat), r.Ok → off + k ≤ r.size → (r.ext off k).Ok ∧ (r.ext off k).toList = (r.toList.drop off).take k
  | .nil, off, k, _, h => by simp [ext, Ok, toList]
  | .one v, off, k, _, h => by
    simp only [size_nil, size_one, size_lst, size_cat] at h
    simp only [ext]
    by_cases hk : k = 1
    · subst hk; obtain rfl : off = 0 := by omega
      simp [Ok, toList]
    · rw [show Nat.beq k 1 = false from by simpa using hk]
      obtain rfl : k = 0 := by omega
      simp [Ok, toList]
  | .lst cs, off, k, _, h => by simp [ext, Ok, toList]
  | .cat n l r, off, k, hok, h => by
    obtain ⟨hn, hl, hr⟩ := hok
    have sl := size_eq hl
    have sr := size_eq hr
    simp only [size_nil, size_one, size_lst, size_cat] at h
    simp only [ext]
    by_cases h1 : k = n
    · rw [show Nat.beq k n = true from by simpa]
      obtain rfl : off = 0 := by omega
      refine ⟨⟨hn, hl, hr⟩, ?_⟩
      simp only [cond_true, toList, List.drop_zero]
      rw [List.take_of_length_le (by simp; omega)]
    · rw [show Nat.beq k n = false from by simpa using h1]
      simp only [cond_false]
      by_cases h2 : off + k ≤ l.size
      · rw [show Nat.ble (off + k) l.size = true from by simpa]
        simp only [cond_true]
        obtain ⟨a, b⟩ := ext_ok off k hl h2
        refine ⟨a, ?_⟩
        rw [b]; simp only [toList]
        rw [List.drop_append_of_le_length (by omega), List.take_append_of_le_length (by simp; omega)]
      · rw [show Nat.ble (off + k) l.size = false from by simp; omega]
        simp only [cond_false]
        by_cases h3 : l.size ≤ off
        · rw [show Nat.ble l.size off = true from by simpa]
          simp only [cond_true]
          obtain ⟨a, b⟩ := ext_ok (off - l.size) k hr (by omega)
          refine ⟨a, ?_⟩
          rw [b]; simp only [toList]
          rw [List.drop_append, List.drop_eq_nil_of_le (show l.toList.length ≤ off by omega), List.nil_append, sl]
        · rw [show Nat.ble l.size off = false from by simp; omega]
          simp only [cond_false]
          obtain ⟨a, b⟩ := ext_ok off (l.size - off) hl (by omega)
          obtain ⟨c, d⟩ := ext_ok 0 (off + k - l.size) hr (by omega)
          have s1 := size_eq a
          have s2 := size_eq c
          refine ⟨⟨?_, a, c⟩, ?_⟩
          · rw [s1, s2, b, d]; simp; omega
          · simp only [toList, b, d, List.drop_zero]
            rw [List.drop_append, List.take_append]
            have e1 : (l.toList.drop off).take (l.size - off) = (l.toList.drop off).take k := by
              rw [List.take_of_length_le (by simp; omega), List.take_of_length_le (by simp; omega)]
            rw [e1, show off - l.toList.length = 0 from by omega, List.drop_zero]
            congr 2
            simp; omega
theorem put_ok : ∀ {r : Rope α} (off : Nat) {new : Rope α}, r.Ok → new.Ok → off + new.size ≤ r.size →
    (r.put off new).Ok ∧ (r.put off new).size = r.size ∧ (r.put off new).toList = r.toList.take off ++ new.toList ++ r.toList.drop (off + new.size)
  | .nil, off, new, _, hn, h => by
    have := size_eq hn
    simp only [size_nil, size_one, size_lst, size_cat] at h
    have e : new.toList = [] := List.eq_nil_of_length_eq_zero (by omega)
    simp [put, Ok, toList, e]
  | .one v, off, new, _, hn, h => by
    have sn := size_eq hn
    simp only [size_nil, size_one, size_lst, size_cat] at h
    simp only [put]
    by_cases hk : new.size = 1
    · rw [show Nat.beq new.size 1 = true from by simpa]
      obtain rfl : off = 0 := by omega
      refine ⟨hn, by simpa using hk, ?_⟩
      simp [toList, hk]
    · rw [show Nat.beq new.size 1 = false from by simpa using hk]
      have e : new.toList = [] := List.eq_nil_of_length_eq_zero (by omega)
      have e2 : new.size = 0 := by omega
      simp only [cond_false, Ok, toList, e, e2, size_one, true_and, List.append_nil, Nat.add_zero, List.take_append_drop]
  | .lst cs, off, new, _, hn, h => by
    have sn := size_eq hn
    simp only [size_nil, size_one, size_lst, size_cat] at h
    refine ⟨trivial, ?_, rfl⟩
    simp only [put, size_lst, List.length_append, List.length_take, List.length_drop]; omega
  | .cat n l r, off, new, hok, hn, h => by
    obtain ⟨hnn, hl, hr⟩ := hok
    have sl := size_eq hl
    have sr := size_eq hr
    have sn := size_eq hn
    simp only [size_nil, size_one, size_lst, size_cat] at h
    simp only [put]
    by_cases h1 : new.size = n
    · rw [show Nat.beq new.size n = true from by simpa]
      obtain rfl : off = 0 := by omega
      refine ⟨hn, by simpa using h1, ?_⟩
      simp only [cond_true, toList]
      rw [List.drop_eq_nil_of_le (by simp; omega)]; simp
    · rw [show Nat.beq new.size n = false from by simpa using h1]
      simp only [cond_false]
      by_cases h2 : off + new.size ≤ l.size
      · rw [show Nat.ble (off + new.size) l.size = true from by simpa]
        simp only [cond_true]
        obtain ⟨a, b, c⟩ := put_ok off hl hn h2
        refine ⟨⟨by omega, a, hr⟩, rfl, ?_⟩
        simp only [toList, c]
        rw [List.take_append_of_le_length (by omega), List.drop_append_of_le_length (by omega)]
        simp
      · rw [show Nat.ble (off + new.size) l.size = false from by simp; omega]
        simp only [cond_false]
        by_cases h3 : l.size ≤ off
        · rw [show Nat.ble l.size off = true from by simpa]
          simp only [cond_true]
          obtain ⟨a, b, c⟩ := put_ok (off - l.size) hr hn (by omega)
          refine ⟨⟨by omega, hl, a⟩, rfl, ?_⟩
          simp only [toList, c]
          rw [List.take_append, List.take_of_length_le (show l.toList.length ≤ off by omega), List.drop_append, List.drop_eq_nil_of_le (show l.toList.length ≤ off + new.size by omega)]
          simp [sl, show off - l.toList.length + new.size = off + new.size - l.toList.length from by omega]
        · rw [show Nat.ble l.size off = false from by simp; omega]
          simp only [cond_false]
          obtain ⟨e1, e2⟩ := ext_ok 0 (l.size - off) hn (by omega)
          obtain ⟨e3, e4⟩ := ext_ok (l.size - off) (off + new.size - l.size) hn (by omega)
          have s1 := size_eq e1
          have s3 := size_eq e3
          have k1 : (new.ext 0 (l.size - off)).size = l.size - off := by rw [s1, e2]; simp; omega
          have k3 : (new.ext (l.size - off) (off + new.size - l.size)).size = off + new.size - l.size := by rw [s3, e4]; simp; omega
          obtain ⟨a, b, c⟩ := put_ok off hl e1 (by omega)
          obtain ⟨a', b', c'⟩ := put_ok 0 hr e3 (by omega)
          refine ⟨⟨by omega, a, a'⟩, rfl, ?_⟩
          simp only [toList, c, c', e2, e4, k1, k3]
          rw [List.drop_eq_nil_of_le (show l.toList.length ≤ off + (l.size - off) by omega)]
          rw [List.take_append_of_le_length (show off ≤ l.toList.length by omega), List.drop_append, List.drop_eq_nil_of_le (show l.toList.length ≤ off + new.size by omega)]
          have e5 : List.take (off + new.size - l.size) (List.drop (l.size - off) new.toList) = List.drop (l.size - off) new.toList := List.take_of_length_le (by simp; omega)
          rw [e5]
          simp only [List.drop_zero, List.append_nil, List.nil_append, List.take_zero, Nat.zero_add, List.append_assoc]
          rw [← List.append_assoc (List.take (l.size - off) new.toList), List.take_append_drop, sl]
theorem ofListF_ok : ∀ (f : Nat) (l : List α), (ofListF f l).Ok ∧ (ofListF f l).toList = l ∧ (ofListF f l).size = l.length
  | 0, l => ⟨trivial, rfl, rfl⟩
  | f + 1, [] => ⟨trivial, rfl, rfl⟩
  | f + 1, [x] => ⟨trivial, rfl, rfl⟩
  | f + 1, x :: y :: l => by
    obtain ⟨a, b, c⟩ := ofListF_ok f ((x :: y :: l).take ((l.length + 2) / 2))
    obtain ⟨a', b', c'⟩ := ofListF_ok f ((x :: y :: l).drop ((l.length + 2) / 2))
    refine ⟨⟨?_, a, a'⟩, ?_, by simp [ofListF]⟩
    · rw [c, c']; simp; omega
    · simp only [ofListF, toList, b, b', List.take_append_drop]
theorem ofList_ok (l : List α) : (ofList l).Ok ∧ (ofList l).toList = l ∧ (ofList l).size = l.length := ofListF_ok _ _
theorem app_ok {a b : Rope α} (ha : a.Ok) (hb : b.Ok) : (a.app b).Ok ∧ (a.app b).toList = a.toList ++ b.toList ∧ (a.app b).size = a.size + b.size := ⟨⟨rfl, ha, hb⟩, rfl, rfl⟩
theorem repF_ok {r : Rope α} (h : r.Ok) : ∀ (f n : Nat), (repF r f n).Ok ∧ (repF r f n).toList = (List.replicate n r.toList).flatten ∧ (repF r f n).size = n * r.size
  | 0, n => ⟨trivial, rfl, by simp [repF, size_eq h]⟩
  | f + 1, n => by
    simp only [repF]
    by_cases h0 : n = 0
    · subst h0; simp [Ok, toList]
    · rw [show Nat.beq n 0 = false from by simpa using h0]
      simp only [cond_false]
      by_cases h1 : n = 1
      · subst h1; simp [h]
      · rw [show Nat.beq n 1 = false from by simpa using h1]
        simp only [cond_false]
        obtain ⟨a, b, c⟩ := repF_ok h f (n / 2)
        obtain ⟨a', b', c'⟩ := repF_ok h f (n - n / 2)
        refine ⟨⟨?_, a, a'⟩, ?_, rfl⟩
        · rw [c, c', ← Nat.add_mul]; congr 1; omega
        · simp only [toList, b, b']
          rw [← List.flatten_append, List.replicate_append_replicate]
          congr 2; omega
theorem rep_ok {r : Rope α} (h : r.Ok) (n : Nat) : (r.rep n).Ok ∧ (r.rep n).toList = (List.replicate n r.toList).flatten ∧ (r.rep n).size = n * r.size := repF_ok h _ _
end Rope

end Go.Ev
