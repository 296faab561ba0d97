/- Numbers: what the walks want of them. -/
import Derived.Test.YtacifbbmfkampaaDoorVmR
namespace Go.Vm
open Go
set_option linter.unusedVariables false
set_option linter.unusedSimpArgs false

theorem wI64 {n : Int} (h1 : -9223372036854775808 ≤ n) (h2 : n < 9223372036854775808) : IntKind.i64.wrap n = n := by
  simp [IntKind.wrap, IntKind.signed, IntKind.bits]; omega
theorem wU64 {n : Int} (h1 : 0 ≤ n) (h2 : n < 18446744073709551616) : IntKind.u64.wrap n = n := by
  simp [IntKind.wrap, IntKind.signed, IntKind.bits]; omega
theorem wU32 {n : Int} (h1 : 0 ≤ n) (h2 : n < 4294967296) : IntKind.u32.wrap n = n := by
  simp [IntKind.wrap, IntKind.signed, IntKind.bits]; omega
theorem wU16 {n : Int} (h1 : 0 ≤ n) (h2 : n < 65536) : IntKind.u16.wrap n = n := by
  simp [IntKind.wrap, IntKind.signed, IntKind.bits]; omega
theorem wU8 (n : Int) : IntKind.u8.wrap n = n % 256 := by
  simp [IntKind.wrap, IntKind.signed, IntKind.bits]
theorem wU64m (n : Int) : IntKind.u64.wrap n = n % 18446744073709551616 := by
  simp [IntKind.wrap, IntKind.signed, IntKind.bits]

/-- 'or' of what stands apart. -/
theorem or_apart (x c i : Nat) (hc : c < 2 ^ i) (hx : x * 2 ^ i + c < 18446744073709551616) : bitsK .or .u64 ((x * 2 ^ i : Nat) : Int) (c : Int) = ((x * 2 ^ i + c : Nat) : Int) := by
  have h1 : (BitVec.ofInt 64 ((x * 2 ^ i : Nat) : Int) ||| BitVec.ofInt 64 (c : Int)).toNat = x * 2 ^ i + c := by
    rw [BitVec.toNat_or, BitVec.ofInt_natCast, BitVec.ofInt_natCast, BitVec.toNat_ofNat, BitVec.toNat_ofNat, Nat.mod_eq_of_lt (by omega), Nat.mod_eq_of_lt (by omega)]
    have := Nat.shiftLeft_add_eq_or_of_lt hc x
    rw [Nat.shiftLeft_eq] at this
    exact this.symm
  have h2 : bitsK .or .u64 ((x * 2 ^ i : Nat) : Int) (c : Int) = IntKind.u64.wrap ((BitVec.ofInt 64 ((x * 2 ^ i : Nat) : Int) ||| BitVec.ofInt 64 (c : Int)).toNat : Int) := rfl
  rw [h2, h1, wU64 (by omega) (by omega)]

/-- Bytes as a number, the greatest first. -/
def beNat (l : List UInt8) : Nat := l.foldl (fun v c => v * 256 + c.toNat) 0
theorem beNat_snoc (l : List UInt8) (c : UInt8) : beNat (l ++ [c]) = beNat l * 256 + c.toNat := by simp [beNat, List.foldl_append]
theorem beNat_lt (l : List UInt8) : beNat l < 256 ^ l.length := by
  suffices h : ∀ (n : Nat) (l : List UInt8), l.length = n → beNat l < 256 ^ n from h _ l rfl
  intro n
  induction n with
  | zero => intro l h; rw [List.eq_nil_of_length_eq_zero h]; simp [beNat]
  | succ n ih =>
    intro l h
    obtain ⟨l', c, rfl⟩ : ∃ l' c, l = l' ++ [c] := ⟨l.dropLast, l.getLast (by intro h0; simp [h0] at h), (List.dropLast_concat_getLast _).symm⟩
    rw [beNat_snoc]
    have h1 := ih l' (by simp at h; omega)
    have h2 : c.toNat < 256 := c.toNat_lt
    rw [Nat.pow_succ]; omega
/-- A number as so many bytes. -/
def textL (v : Nat) : Nat → List UInt8
  | 0 => []
  | n + 1 => UInt8.ofNat (v / 256 ^ n % 256) :: textL v n
theorem textL_length (v n : Nat) : (textL v n).length = n := by induction n with | zero => rfl | succ n ih => simp [textL, ih]
theorem textL_mod (v w : Nat) : ∀ n, v % 256 ^ n = w % 256 ^ n → textL v n = textL w n
  | 0, _ => rfl
  | n + 1, h => by
    have key : ∀ x : Nat, x / 256 ^ n % 256 = x % 256 ^ (n + 1) / 256 ^ n := by
      intro x; rw [Nat.pow_succ, Nat.mod_mul_right_div_self]
    have h2 : v % 256 ^ n = w % 256 ^ n := by
      have hd : 256 ^ n ∣ 256 ^ (n + 1) := ⟨256, by rw [Nat.pow_succ]⟩
      rw [← Nat.mod_mod_of_dvd v hd, ← Nat.mod_mod_of_dvd w hd, h]
    simp only [textL]
    rw [key v, key w, h, textL_mod v w n h2]
theorem beNat_cons (c : UInt8) (l : List UInt8) : beNat (c :: l) = c.toNat * 256 ^ l.length + beNat l := by
  suffices h : ∀ (n : Nat) (l : List UInt8), l.length = n → beNat (c :: l) = c.toNat * 256 ^ n + beNat l from h _ l rfl
  intro n
  induction n with
  | zero => intro l h; rw [List.eq_nil_of_length_eq_zero h]; simp [beNat]
  | succ n ih =>
    intro l h
    obtain ⟨l', d, rfl⟩ : ∃ l' d, l = l' ++ [d] := ⟨l.dropLast, l.getLast (by intro h0; simp [h0] at h), (List.dropLast_concat_getLast _).symm⟩
    have h1 := ih l' (by simp at h; omega)
    rw [← List.cons_append, beNat_snoc, beNat_snoc, h1, Nat.pow_succ, Nat.add_mul]
    rw [Nat.mul_assoc]; omega
theorem textL_beNat : ∀ l : List UInt8, textL (beNat l) l.length = l
  | [] => rfl
  | c :: l => by
    have hl := beNat_lt l
    have hc : c.toNat < 256 := c.toNat_lt
    simp only [List.length_cons, textL]
    have h1 : beNat (c :: l) / 256 ^ l.length % 256 = c.toNat := by
      rw [beNat_cons, Nat.add_comm, Nat.add_mul_div_right _ _ (Nat.pow_pos (by decide)), Nat.div_eq_of_lt hl, Nat.zero_add, Nat.mod_eq_of_lt hc]
    have h2 : textL (beNat (c :: l)) l.length = textL (beNat l) l.length := textL_mod _ _ _ (by rw [beNat_cons, Nat.add_comm, Nat.add_mul_mod_self_right])
    rw [h1, h2, textL_beNat l]
    simp
theorem beNat_textL (v : Nat) : ∀ n, beNat (textL v n) = v % 256 ^ n
  | 0 => by simp [textL, beNat, Nat.mod_one]
  | n + 1 => by
    rw [textL, beNat_cons, textL_length, beNat_textL v n]
    have h1 : (UInt8.ofNat (v / 256 ^ n % 256)).toNat = v / 256 ^ n % 256 := by rw [UInt8.toNat_ofNat']; exact Nat.mod_eq_of_lt (by omega)
    rw [h1, Nat.pow_succ, Nat.mod_mul, Nat.add_comm, Nat.mul_comm]
end Go.Vm
