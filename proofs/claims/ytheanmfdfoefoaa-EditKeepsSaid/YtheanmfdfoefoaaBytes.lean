/- Plain functions on bytes: a number's lowest bytes, and its short form of seven bits a byte. No program in sight. -/
import Derived.Test.YtheanmfdfoefoaaKit
namespace Go.Proofs.Ytheanmfdfoefoaa
open Go Go.RowKit

/-- The cells of bytes. -/
def bc (l : List UInt8) : List Value := l.map fun b => .int .u8 (b.toNat : Int)
theorem bc_length (l : List UInt8) : (bc l).length = l.length := by simp [bc]
theorem bc_append (a b : List UInt8) : bc (a ++ b) = bc a ++ bc b := by simp [bc]
theorem bc_cons (x : UInt8) (l : List UInt8) : bc (x :: l) = bc [x] ++ bc l := rfl
theorem bc_one (l : List UInt8) : ∀ u ∈ bc l, u.oneCell' = true := by
  intro u hu
  obtain ⟨b, _, rfl⟩ := List.mem_map.1 hu
  rfl

/-- 2^64, behind a name: the walk does not bear the long numeral. -/
def U64 : Nat := 18446744073709551616

/-- The s lowest bytes of n. -/
def leB : Nat → Nat → List UInt8
  | 0, _ => []
  | s + 1, n => UInt8.ofNat n :: leB s (n / 256)
theorem leB_length (s : Nat) : ∀ n, (leB s n).length = s := by
  induction s with
  | zero => intro n; rfl
  | succ s ih => intro n; simp [leB, ih]

theorem leB_snoc (s : Nat) : ∀ n, leB (s + 1) n = leB s n ++ [UInt8.ofNat (n / 256 ^ s)] := by
  induction s with
  | zero => intro n; simp [leB]
  | succ s ih =>
    intro n
    rw [leB, ih (n / 256)]
    simp only [leB, List.cons_append]
    rw [Nat.div_div_eq_div_mul, Nat.pow_succ, Nat.mul_comm 256]
theorem pow_shift (s : Nat) : (2 : Nat) ^ (8 * s) = 256 ^ s := by rw [Nat.pow_mul]
/-- The one cell of a byte that was cut out of a number. -/
theorem bc_byte (m : Nat) : bc [UInt8.ofNat m] = [.int .u8 ((m : Int) % 256)] := by
  simp only [bc, List.map_cons, List.map_nil, UInt8.toNat_ofNat']
  congr 2

theorem bc_wrap (m : Nat) : bc [UInt8.ofNat m] = [.int .u8 (IntKind.u8.wrap (m : Int))] := by
  rw [bc_byte, IntKind.wrap_u8]

/-- n's short form, with fuel. -/
def putF : Nat → Nat → List UInt8
  | 0, _ => []
  | f + 1, n => if n < 128 then [UInt8.ofNat n] else UInt8.ofNat (n % 128 + 128) :: putF f (n / 128)
def putB (n : Nat) : List UInt8 := putF 11 n
theorem putF_fuel : ∀ (f g n : Nat), n < 128 ^ f → n < 128 ^ g → 0 < f → 0 < g → putF f n = putF g n := by
  intro f
  induction f with
  | zero => intro g n _ _ h; omega
  | succ f ih =>
    intro g n hf hg _ hg0
    obtain ⟨g, rfl⟩ : ∃ k, g = k + 1 := ⟨g - 1, by omega⟩
    simp only [putF]
    split
    · rfl
    · rename_i hn
      have e1 : n / 128 < 128 ^ f := by rw [Nat.div_lt_iff_lt_mul (by omega), ← Nat.pow_succ]; exact hf
      have e2 : n / 128 < 128 ^ g := by rw [Nat.div_lt_iff_lt_mul (by omega), ← Nat.pow_succ]; exact hg
      have f0 : 0 < f := by
        rcases Nat.eq_zero_or_pos f with rfl | h
        · simp at hf; omega
        · exact h
      have g0 : 0 < g := by
        rcases Nat.eq_zero_or_pos g with rfl | h
        · simp at hg; omega
        · exact h
      rw [ih g (n / 128) e1 e2 f0 g0]
theorem putB_small (n : Nat) (h : n < 128) : putB n = [UInt8.ofNat n] := by simp [putB, putF, h]
theorem putB_big (n : Nat) (h : 128 ≤ n) (hb : n < U64) : putB n = UInt8.ofNat (n % 128 + 128) :: putB (n / 128) := by
  unfold U64 at hb
  show putF 11 n = _ :: putF 11 (n / 128)
  have e : putF 11 n = UInt8.ofNat (n % 128 + 128) :: putF 10 (n / 128) := by
    rw [show (11 : Nat) = 10 + 1 from rfl, putF, if_neg (by omega)]
  rw [e, putF_fuel 10 11 (n / 128) (by omega) (by omega) (by omega) (by omega)]
theorem putF_length : ∀ (f n : Nat), (putF f n).length ≤ f := by
  intro f
  induction f with
  | zero => intro n; simp [putF]
  | succ f ih => intro n; simp only [putF]; split <;> simp; exact ih _
theorem putB_length (n : Nat) : (putB n).length ≤ 11 := putF_length 11 n
theorem putB_pos (n : Nat) : 0 < (putB n).length := by
  unfold putB
  rw [show (11 : Nat) = 10 + 1 from rfl, putF]
  split <;> simp
/-- The byte of Put that says that there is more. -/
theorem or128 (m : Nat) : bits .or .u8 ((m : Int) % 256) 128 = (((UInt8.ofNat (m % 128 + 128)).toNat : Nat) : Int) := by
  have h : ∀ r : Fin 256, bits .or .u8 ((r.val : Nat) : Int) 128 = ((r.val % 128 + 128 : Nat) : Int) := by decide +kernel
  have e := h ⟨m % 256, by omega⟩
  have e2 : ((m : Int) % 256) = ((m % 256 : Nat) : Int) := by omega
  rw [e2, e]
  simp only [UInt8.toNat_ofNat']
  omega
theorem bc_small (m : Nat) (h : m < 256) : bc [UInt8.ofNat m] = [.int .u8 (m : Int)] := by
  simp only [bc, List.map_cons, List.map_nil, UInt8.toNat_ofNat']
  rw [Nat.mod_eq_of_lt (by omega)]
/-- A text behind the count of its bytes. -/
def textB (s : ByteArray) : List UInt8 := putB s.size ++ s.data.toList
theorem byteCells_bc (s : ByteArray) : byteCells s = bc s.data.toList := rfl
/-- 'string(b)'. -/
theorem run_str {P : Program} {w : World} {v : Value} {l : List UInt8} {n : Nat} (h : Rd w 1 v n (bc l)) {src dst e : TypeId} (hs : P.underlying src = some (.slice e)) (he : P.underlying e = some (.int .u8)) (hd : P.underlying dst = some .string) :
    (convert src dst v).run P w = .ok (.string ⟨l.toArray⟩) w := by
  obtain ⟨A, c, rfl, _, _, hl, hc⟩ := h
  have hn : l.length = n := by simpa [bc] using hl
  subst hn
  rcases Nat.eq_zero_or_pos l.length with h0 | h0
  · have hx : l = [] := List.eq_nil_of_length_eq_zero h0
    subst hx
    cases A with
    | none => exact run_convert_bytes_nil w src e hs he 0 c dst hd
    | some a => exact run_convert_bytes_back w src dst e a c [] hs he hd (fun j hj => absurd hj (by simp))
  · obtain ⟨ad, rfl, hcc⟩ := hc h0
    refine run_convert_bytes_back w src dst e ad c l hs he hd (fun j hj => hcc j _ ?_)
    simp [bc, hj]
#print axioms putB_big
end Go.Proofs.Ytheanmfdfoefoaa
