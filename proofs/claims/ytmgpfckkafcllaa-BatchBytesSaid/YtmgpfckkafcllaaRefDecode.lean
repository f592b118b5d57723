/- assartref09.DocEncode, whole; assartref09.DocDecode. -/
import Derived.Test.YtmgpfckkafcllaaRefEncode
namespace Go.Proofs.Ytmgpfckkafcllaa
open Go Go.RowKit

set_option maxRecDepth 100000 in
set_option maxHeartbeats 400000 in
theorem DocEncode_calls (seq : Int) (l : List OpD) (v : Value) (w : World) (hv : RdT w 3 opC v l) :
    Calls Try.prog 12 #[.int .i64 seq, v] w fun e w' => e = .returned (.tuple #[.string (str (encR seq l)), .int .i64 (checkB seq l)]) ∧ Below w.heap.size w w' := by
  by_cases hc : checkB seq l = 0
  · have h1 := (checkB_zero hc).1
    obtain ⟨n, rfl⟩ : ∃ n : Nat, seq = n := ⟨seq.toNat, by omega⟩
    refine (DocEncode_yes n l v w hv hc).mono ?_
    rintro e w' ⟨rfl, hb⟩
    have he : encR n l = encB n l := by rw [encR, if_pos hc]; rfl
    exact ⟨by rw [he, hc], hb⟩
  · have he : encR seq l = [] := by rw [encR, if_neg hc]
    have HC := Lib.hid (DocCheck_calls seq l v w hv)
    have hc' : (checkB seq l != 0) = true := by simpa using hc
    obtain ⟨A, c, rfl, hnc, hcm, q1, q2⟩ := hv
    clear q1 q2
    replace he := Lib.hid he
    clear hc
    generalize checkB seq l = r at *
    go_enter Try.func12, Try.ntmps12
    go_wp2_with (go_at_call 25; refine HC.out.mono ?_; rintro e w1 ⟨rfl, hb1⟩)
    go_ret2
    exact ⟨by rw [he.out]; rfl, hb1⟩

def docL : Nat → List UInt8 → List OpD → Option (List OpD)
  | 0, _, acc => some acc
  | _ + 1, [], _ => none
  | n + 1, x :: rest, acc =>
    if (textG rest 64).2.2 ≠ 0 then none
    else if x.toNat = 1 then
      if (textG (rest.drop (textG rest 64).2.1) 1000).2.2 ≠ 0 then none
      else docL n ((rest.drop (textG rest 64).2.1).drop (textG (rest.drop (textG rest 64).2.1) 1000).2.1) (acc ++ [⟨1, str (textG rest 64).1, str (textG (rest.drop (textG rest 64).2.1) 1000).1⟩])
    else docL n (rest.drop (textG rest 64).2.1) (acc ++ [⟨x.toNat, str (textG rest 64).1, ⟨#[]⟩⟩])
theorem docL_put : ∀ (l : List OpD), (∀ o ∈ l, OpOk o) → ∀ (rest : List UInt8) (acc : List OpD), docL l.length (l.flatMap opB ++ rest) acc = some (acc ++ l) := by
  intro l
  induction l with
  | nil => intro _ rest acc; simp [docL]
  | cons o l ih =>
    intro ho rest acc
    obtain ⟨h1, h2, h3, h4⟩ := ho o (by simp)
    have e : (o :: l).flatMap opB ++ rest = UInt8.ofNat o.kind.toNat :: (textB o.key ++ ((if o.kind = 1 then textB o.val else []) ++ (l.flatMap opB ++ rest))) := by simp [opB]
    rw [e, List.length_cons, docL, textG_put o.key 64 h1 (by decide)]
    rw [if_neg (by simp)]
    simp only [List.drop_left]
    rcases h3 with h3 | h3
    · have hv := ba_empty o.val (h4 h3)
      rw [h3, if_neg (by decide), if_neg (by decide), List.nil_append, ih (fun x hx => ho x (by simp [hx]))]
      obtain ⟨k, key, val⟩ := o
      simp only at h3 hv
      subst h3 hv
      simp [str]
    · rw [h3, if_pos (by decide), if_pos rfl, textG_put o.val 1000 h2 (by decide), if_neg (by simp)]
      simp only [List.drop_left]
      rw [ih (fun x hx => ho x (by simp [hx]))]
      obtain ⟨k, key, val⟩ := o
      simp only at h3
      subst h3
      simp [str]
theorem decOk_doc {b : List UInt8} (h : decOk b = true) : 12 ≤ b.length ∧ leV (b.take 8) = (decSeq b).toNat ∧ leV (b.take 8) ≤ 72057594037927935 ∧ leV ((b.drop 8).take 4) = (decR b).2.2.length ∧
    leV ((b.drop 8).take 4) ≤ 200 ∧ docL (leV ((b.drop 8).take 4)) (b.drop 12) [] = some (decR b).2.2 ∧ checkB (decSeq b) (decR b).2.2 = 0 ∧ decSeq b = (leV (b.take 8) : Int) := by
  obtain ⟨k1, k2⟩ := decOk_inv h
  obtain ⟨⟨s1, s2, s3⟩, h4, h5, h6⟩ := checkB_zero k1
  obtain ⟨m1, m2, m3, m4, _⟩ := ok_of_check k1
  generalize hq : (decSeq b).toNat = s at *
  generalize (decR b).2.2 = ops at *
  have e : b = leB 8 s ++ (leB 4 ops.length ++ ops.flatMap opB) := by rw [← k2]; simp [encB]
  have l8 := leB_length 8 s
  have l4 := leB_length 4 ops.length
  have t8 : b.take 8 = leB 8 s := by rw [e, List.take_append_of_le_length (by omega)]; exact List.take_of_length_le (by omega)
  have d8 : b.drop 8 = leB 4 ops.length ++ ops.flatMap opB := by rw [e, List.drop_append_of_le_length (by omega), List.drop_of_length_le (by omega)]; rfl
  have t4 : (b.drop 8).take 4 = leB 4 ops.length := by rw [d8, List.take_append_of_le_length (by omega)]; exact List.take_of_length_le (by omega)
  have d12 : b.drop 12 = ops.flatMap opB := by
    rw [show 12 = 8 + 4 from rfl, ← List.drop_drop, d8, List.drop_append_of_le_length (by omega), List.drop_of_length_le (by omega)]; rfl
  rw [t8, t4, leV_leB 8 s m3, leV_leB 4 ops.length m2, d12]
  have hp := docL_put ops m1 [] []
  rw [List.append_nil, List.nil_append] at hp
  refine ⟨by rw [e]; simp only [List.length_append]; omega, rfl, by omega, rfl, by omega, hp, k1, m4.symm⟩
end Go.Proofs.Ytmgpfckkafcllaa
