/- More operations on whole numbers. -/
import Derived.Test.YtkcdhdilifolfaaGreatEvM1
namespace Go.Ev
variable {C : Ctx}
def bitsI (op : BinOp) (k : IntKind) (x y : Int) : Int :=
  let a := BitVec.ofInt k.bits x
  let b := BitVec.ofInt k.bits y
  wrapF k (match op with
    | .and => a &&& b
    | .or => a ||| b
    | .xor => a ^^^ b
    | _ => a &&& ~~~b : BitVec k.bits).toNat
def shlI (k : IntKind) (x y : Int) : Int := wrapF k (x * 2 ^ (min y.toNat k.bits))
def shrI (k : IntKind) (x y : Int) : Int := x.fdiv (2 ^ (min y.toNat k.bits))

theorem binop_slow (op : BinOp) (t : TypeId) (cst : Bool) (k k' : IntKind) (a b : Int) (v : Value) (hf : fastBin op k a b = none) (h : pure? C.P (Go.binOp op t (.int k a) (.int k' b)) = some v) :
    binop C op t cst (.s (.int k a)) (.s (.int k' b)) = some (.s v) := by
  have : scalarBin C op t (.int k a) (.int k' b) = some v := by
    simp only [scalarBin, hf, h]
    cases kindEq k k' <;> rfl
  simp [binop, bothNil, flatV, this]
@[simp] theorem bin_and (t : TypeId) (cst : Bool) (k : IntKind) (a b : Int) : binop C .and t cst (.s (.int k a)) (.s (.int k b)) = some (.s (.int k (bitsI .and k a b))) :=
  binop_slow _ _ _ _ _ _ _ _ rfl (by simp only [Go.binOp, ne_eq, not_true, if_false, bitsI, wrapF_eq]; rfl)
@[simp] theorem bin_or (t : TypeId) (cst : Bool) (k : IntKind) (a b : Int) : binop C .or t cst (.s (.int k a)) (.s (.int k b)) = some (.s (.int k (bitsI .or k a b))) :=
  binop_slow _ _ _ _ _ _ _ _ rfl (by simp only [Go.binOp, ne_eq, not_true, if_false, bitsI, wrapF_eq]; rfl)
@[simp] theorem bin_xor (t : TypeId) (cst : Bool) (k : IntKind) (a b : Int) : binop C .xor t cst (.s (.int k a)) (.s (.int k b)) = some (.s (.int k (bitsI .xor k a b))) :=
  binop_slow _ _ _ _ _ _ _ _ rfl (by simp only [Go.binOp, ne_eq, not_true, if_false, bitsI, wrapF_eq]; rfl)
@[simp] theorem bin_andNot (t : TypeId) (cst : Bool) (k : IntKind) (a b : Int) : binop C .andNot t cst (.s (.int k a)) (.s (.int k b)) = some (.s (.int k (bitsI .andNot k a b))) :=
  binop_slow _ _ _ _ _ _ _ _ rfl (by simp only [Go.binOp, ne_eq, not_true, if_false, bitsI, wrapF_eq]; rfl)
theorem bin_quo (t : TypeId) (cst : Bool) (k : IntKind) (a : Int) {b : Int} (hb : b ≠ 0) : binop C .quo t cst (.s (.int k a)) (.s (.int k b)) = some (.s (.int k (wrapF k (a.tdiv b)))) :=
  binop_slow _ _ _ _ _ _ _ _ rfl (by simp only [Go.binOp, ne_eq, not_true, if_false, wrapF_eq, Op.intDiv, if_neg hb]; rfl)
theorem bin_rem (t : TypeId) (cst : Bool) (k : IntKind) (a : Int) {b : Int} (hb : b ≠ 0) : binop C .rem t cst (.s (.int k a)) (.s (.int k b)) = some (.s (.int k (a.tmod b))) :=
  binop_slow _ _ _ _ _ _ _ _ rfl (by simp only [Go.binOp, ne_eq, not_true, if_false, Op.intDiv, if_neg hb]; rfl)
theorem bin_shl (t : TypeId) (cst : Bool) (k k' : IntKind) (a : Int) {b : Int} (hb : 0 ≤ b) : binop C .shl t cst (.s (.int k a)) (.s (.int k' b)) = some (.s (.int k (shlI k a b))) :=
  binop_slow _ _ _ _ _ _ _ _ rfl (by simp only [Go.binOp, Op.shift, if_neg (Int.not_lt.2 hb), shlI, wrapF_eq]; rfl)
theorem bin_shr (t : TypeId) (cst : Bool) (k k' : IntKind) (a : Int) {b : Int} (hb : 0 ≤ b) : binop C .shr t cst (.s (.int k a)) (.s (.int k' b)) = some (.s (.int k (shrI k a b))) :=
  binop_slow _ _ _ _ _ _ _ _ rfl (by simp only [Go.binOp, Op.shift, if_neg (Int.not_lt.2 hb), shrI]; rfl)

/-! Of numbers without a sign. -/
theorem wrapF_natu {k : IntKind} (hk : k.signed = false) {a : Nat} (h : a < p2 k) : wrapF k (a : Int) = a := wrapF_unsigned hk (by omega) (by simpa using h)
theorem bits_p2 (k : IntKind) : 2 ^ k.bits = p2 k := by cases k <;> rfl
theorem bitsI_nat {op : BinOp} {k : IntKind} (hk : k.signed = false) {a b : Nat} (ha : a < p2 k) (hb : b < p2 k) : bitsI op k a b = (match op with
    | .and => (a &&& b : Nat)
    | .or => (a ||| b : Nat)
    | .xor => (a ^^^ b : Nat)
    | _ => (BitVec.ofNat k.bits a &&& ~~~(BitVec.ofNat k.bits b)).toNat) := by
  rw [← bits_p2] at ha hb
  unfold bitsI
  simp only [BitVec.ofInt_natCast]
  have : ∀ x : BitVec k.bits, wrapF k (x.toNat : Int) = x.toNat := fun x => wrapF_natu hk (by rw [← bits_p2]; exact x.isLt)
  rw [this]
  cases op <;> simp [BitVec.toNat_and, BitVec.toNat_or, BitVec.toNat_xor, Nat.mod_eq_of_lt ha, Nat.mod_eq_of_lt hb]
theorem bitsI_or {k : IntKind} (hk : k.signed = false) {a b : Nat} (ha : a < p2 k) (hb : b < p2 k) : bitsI .or k a b = ((a ||| b : Nat) : Int) := bitsI_nat hk ha hb
theorem bitsI_and {k : IntKind} (hk : k.signed = false) {a b : Nat} (ha : a < p2 k) (hb : b < p2 k) : bitsI .and k a b = ((a &&& b : Nat) : Int) := bitsI_nat hk ha hb
theorem bitsI_xor {k : IntKind} (hk : k.signed = false) {a b : Nat} (ha : a < p2 k) (hb : b < p2 k) : bitsI .xor k a b = ((a ^^^ b : Nat) : Int) := bitsI_nat hk ha hb
end Go.Ev
