/- Between two memories; and what numbers are when they are wrapped. -/
import Derived.Test.YtkcdhdilifolfaaGreatEvKG
namespace Go.Ev
set_option maxRecDepth 20000

theorem CallK.monoN {C : Ctx} {f : FuncId} {args : List V} {h : Heap} {n : Nat} {K K' : V → Heap → Nat → Prop} (hm : ∀ v h' n', K v h' n' → n ≤ n' → K' v h' n') (hk : CallK C f args h n K) : CallK C f args h n K' :=
  CallK.hkeep hk fun _ v h' n' k hn hok => ⟨h', fun b o hb => ⟨o, hb, hok b o hb⟩, hm v h' n' k hn⟩
/-- What changed between two memories: new blocks, and blocks of a list. -/
def Same (n : Nat) (fp : List Nat) (h h' : Heap) : Prop := ∀ b, b < n → b ∉ fp → h'.get b = h.get b
theorem Same.refl (n : Nat) (fp : List Nat) (h : Heap) : Same n fp h h := fun _ _ _ => rfl
theorem Same.new (n : Nat) (fp : List Nat) (h : Heap) (o : O) : Same n fp h (h.set n o) := fun b hb _ => by rw [Tree.get_set, if_neg (by omega)]
theorem Same.trans {n n' : Nat} {fp fp' : List Nat} {h h' h'' : Heap} (a : Same n fp h h') (hn : n ≤ n') (b : Same n' fp' h' h'') : Same n (fp ++ fp') h h'' := by
  intro x hx hm
  simp at hm
  rw [b x (by omega) hm.2, a x hx hm.1]
theorem wrap_i64r (x : Int) : -9223372036854775808 ≤ wrapF .i64 x ∧ wrapF .i64 x ≤ 9223372036854775807 := by
  unfold wrapF
  simp only [p2, IntKind.signed, cond_true]
  have h1 : 0 ≤ x.emod (Int.ofNat 18446744073709551616) := Int.emod_nonneg x (by decide)
  have h2 : x.emod (Int.ofNat 18446744073709551616) < Int.ofNat 18446744073709551616 := Int.emod_lt_of_pos x (by decide)
  rw [show Int.ofNat 18446744073709551616 = (18446744073709551616 : Int) from rfl] at *
  generalize x.emod 18446744073709551616 = y at h1 h2 ⊢
  rw [ble_dec]
  by_cases h : 18446744073709551616 / 2 ≤ y.toNat
  · simp only [h, decide_true, cond_true]; omega
  · simp only [h, decide_false, cond_false]; omega
theorem keyNow_i (a b : Int) : keyNow (.int .i64) (.s (.int .i64 a)) (.s (.int .i64 b)) = some (decide (a = b)) := by
  simp [keyNow, intEq_dec, kindEq_self]

theorem hsub_of {h h' : Heap} {n : Nat} (hlt : ∀ b o, h.get b = some o → b < n) (hok : HOk h') (he : ∀ b, b < n → h'.get b = h.get b) : HSub h h' := by
  intro b o hb
  have hb' := hlt b o hb
  rw [← he b hb'] at hb
  exact ⟨o, hb, hok b o hb⟩

theorem wrap_iu (k : Int) : wrapF .i64 (wrapF .u64 k) = wrapF .i64 k := by
  have e : wrapF .u64 k = k.emod 18446744073709551616 := rfl
  have e2 : (k.emod 18446744073709551616).emod (Int.ofNat 18446744073709551616) = k.emod (Int.ofNat 18446744073709551616) := Int.emod_emod_of_dvd k (Int.dvd_refl _)
  rw [e]
  unfold wrapF
  simp only [p2]
  rw [e2]

/-! So that simp leaves a trace of these steps: else the kernel may look for them in the program. -/
@[simp high] theorem condF {α : Type} (a b : α) : (bif false then a else b) = b := of_eq rfl
@[simp high] theorem condT {α : Type} (a b : α) : (bif true then a else b) = a := of_eq rfl
@[simp] theorem rWant_u (w : Bool) : rWant w undefV = false := of_eq rfl
end Go.Ev
