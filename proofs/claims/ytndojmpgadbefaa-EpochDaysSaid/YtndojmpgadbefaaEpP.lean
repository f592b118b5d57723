/- Pools of slabs: the plain law and how a pool lies in the heap. -/
import Derived.Test.YtndojmpgadbefaaHvTab
import Derived.Test.YtndojmpgadbefaaHvNew
import Derived.Test.YtndojmpgadbefaaKsP
set_option linter.unusedVariables false
set_option linter.unusedSimpArgs false
namespace Go.Proofs.Ytndojmpgadbefaa
open Go Go.RowKit Hv
set_option maxRecDepth 20000
theorem nb {a b : Nat} (h : a ≠ b) : (a == b) = false := beq_eq_false_iff_ne.2 h
theorem wrap_nat0 {k : Nat} (h : k < 4611686018427387904) : IntKind.i64.wrap ((k : Int) + 1) = ((k + 1 : Nat) : Int) := by
  have := IntWalk.i64_in ((k : Int) + 1) (by omega)
  omega
theorem u64_mod (z : Int) {K : Nat} (hK : 0 < K) (hK' : K ≤ 1000000) : ∃ m : Nat, m < K ∧ (IntKind.u64.wrap z).tmod (K : Int) = (m : Int) ∧ IntKind.i64.wrap (m : Int) = (m : Int) := by
  have h0 : IntKind.u64.wrap z = z % 18446744073709551616 := by simp [IntKind.wrap, IntKind.bits, IntKind.signed]
  obtain ⟨u, hu⟩ : ∃ u : Nat, IntKind.u64.wrap z = (u : Int) := ⟨(z % 18446744073709551616).toNat, by rw [h0]; omega⟩
  have hm : u % K < K := Nat.mod_lt _ hK
  exact ⟨u % K, hm, by rw [hu]; exact (Int.ofNat_tmod _ _).symm, IntWalk.i64_in _ (by omega)⟩
structure LandD where
  there : Bool
  gen : Nat
  slabs : List Nat
  fill : Nat
structure PoolD where
  size : Nat
  slabs : List (List UInt8)
  taken : List Bool
  lands : List LandD
def landZ : LandD := ⟨false, 0, [], 0⟩
def nilV : AV := .lit (.slice none 0 0)
def landC (l : LandD) (v : AV) : List AV := [.lit (.bool l.there), .lit (.int .i64 (l.gen : Int)), v, .lit (.int .i64 (l.fill : Int))]
def landsC : List LandD → List AV → List AV
  | l :: ls, v :: vs => .lit (.bool l.there) :: .lit (.int .i64 (l.gen : Int)) :: v :: .lit (.int .i64 (l.fill : Int)) :: landsC ls vs
  | _, _ => []
def boolI (b : Bool) : List AV := [.lit (.bool b)]
def natI (k : Nat) : List AV := [.lit (.int .i64 (k : Int))]
def slabI (size s : Nat) : List AV := [.rw s 1 0 size]
theorem landsC_len : ∀ {ls : List LandD} {vs : List AV}, ls.length = vs.length → (landsC ls vs).length = ls.length * 4
  | [], [], _ => rfl
  | l :: ls, v :: vs, h => by
    have := landsC_len (ls := ls) (vs := vs) (by simpa using h)
    show (landsC ls vs).length + 1 + 1 + 1 + 1 = (ls.length + 1) * 4
    omega
  | [], _ :: _, h => by simp at h
  | _ :: _, [], h => by simp at h
theorem landsC_drop : ∀ {ls : List LandD} {vs : List AV} {i : Nat} {l : LandD} {v : AV}, ls[i]? = some l → vs[i]? = some v →
    List.drop (i * 4) (landsC ls vs) = .lit (.bool l.there) :: .lit (.int .i64 (l.gen : Int)) :: v :: .lit (.int .i64 (l.fill : Int)) :: landsC (ls.drop (i + 1)) (vs.drop (i + 1))
  | l0 :: ls, v0 :: vs, 0, l, v, h1, h2 => by
    simp only [List.getElem?_cons_zero, Option.some.injEq] at h1 h2
    subst h1 h2; rfl
  | l0 :: ls, v0 :: vs, i + 1, l, v, h1, h2 => by
    have ih := landsC_drop (ls := ls) (vs := vs) (i := i) (by simpa using h1) (by simpa using h2)
    have e : (i + 1) * 4 = i * 4 + 4 := by omega
    rw [e]
    exact ih
  | [], _, _, _, _, h, _ => by simp at h
  | _ :: _, [], _, _, _, _, h => by simp at h
theorem landsC_set : ∀ {ls : List LandD} {vs : List AV} {i : Nat} {l l' : LandD} {v v' : AV}, ls[i]? = some l → vs[i]? = some v →
    List.take (i * 4) (landsC ls vs) ++ (landC l' v' ++ landsC (ls.drop (i + 1)) (vs.drop (i + 1))) = landsC (ls.set i l') (vs.set i v')
  | l0 :: ls, v0 :: vs, 0, l, l', v, v', h1, h2 => rfl
  | l0 :: ls, v0 :: vs, i + 1, l, l', v, v', h1, h2 => by
    have ih := landsC_set (ls := ls) (vs := vs) (i := i) (l' := l') (v' := v') (by simpa using h1) (by simpa using h2)
    have e : (i + 1) * 4 = i * 4 + 4 := by omega
    rw [e]
    show _ :: _ :: _ :: _ :: (List.take (i * 4) (landsC ls vs) ++ _) = _ :: _ :: _ :: _ :: _
    rw [← ih]; rfl
  | [], _, _, _, _, _, _, h, _ => by simp at h
  | _ :: _, [], _, _, _, _, _, _, h => by simp at h
theorem landsC_end : ∀ {ls : List LandD} {vs : List AV} (i : Nat), List.drop (i * 4) (landsC ls vs) = landsC (ls.drop i) (vs.drop i)
  | _, _, 0 => by rw [Nat.zero_mul, List.drop_zero, List.drop_zero, List.drop_zero]
  | l :: ls, v :: vs, i + 1 => by
    have e : (i + 1) * 4 = i * 4 + 4 := by omega
    rw [e]
    exact landsC_end i
  | [], vs, i + 1 => by simp [landsC]
  | l :: ls, [], i + 1 => by
    rw [List.drop_nil]
    show List.drop _ [] = _
    rw [List.drop_nil]
    cases (l :: ls).drop (i + 1) <;> rfl
/-- What is set in one region's cells. -/
theorem landsC_at {ls : List LandD} {vs : List AV} {i : Nat} {l l' : LandD} {v v' : AV} (h1 : ls[i]? = some l) (h2 : vs[i]? = some v) :
    List.take (i * 4) (landsC ls vs) ++ (landC l' v' ++ List.drop (i * 4 + 4) (landsC ls vs)) = landsC (ls.set i l') (vs.set i v') := by
  rw [← landsC_set (l' := l') (v' := v') h1 h2, show i * 4 + 4 = (i + 1) * 4 by omega, landsC_end]
structure PoolOk (d : PoolD) : Prop where
  sz : 64 ≤ d.size ∧ d.size ≤ 65536
  k : d.slabs.length ≤ 4096
  bs : ∀ b ∈ d.slabs, b.length = d.size
  ll : d.lands.length = 256
  tl : d.taken.length = d.slabs.length
  ls : ∀ l ∈ d.lands, l.slabs.length ≤ 4096 ∧ (∀ s ∈ l.slabs, s < d.slabs.length) ∧ l.fill ≤ l.slabs.length * d.size ∧ (l.slabs.length - 1) * d.size ≤ l.fill ∧ (l.there = false → l.slabs = [])
structure PoolN where
  gs : Nat
  gt : Nat
  sb : List Nat
  gl : List AV
def LandV (H : Hp) (S : Nat → Prop) (l : LandD) (v : AV) : Prop := (v = nilV ∧ l.slabs = []) ∨ ∃ g, v = .rw g 1 0 l.slabs.length ∧ H g = some (.row false 3 (l.slabs.map natI)) ∧ S g ∧ l.slabs ≠ []
structure PoolH (H : Hp) (n : Nat) (S : Nat → Prop) (p : Nat) (N : PoolN) (d : PoolD) : Prop where
  pl : H p = some (.cells (.lit (.int .i64 (d.size : Int)) :: .rw N.gs 1 0 d.slabs.length :: .rw N.gt 1 0 d.slabs.length :: landsC d.lands N.gl))
  gs : H N.gs = some (.row false 47 (N.sb.map (slabI d.size)))
  gt : H N.gt = some (.row true 4 (d.taken.map boolI))
  sb : ∀ (j s : Nat) (b : List UInt8), N.sb[j]? = some s → d.slabs[j]? = some b → H s = some (.row true 5 (b.map byteA)) ∧ S s
  gl : N.gl.length = 256
  sl : N.sb.length = d.slabs.length
  ln : ∀ (i : Nat) (l : LandD) (v : AV), d.lands[i]? = some l → N.gl[i]? = some v → LandV H S l v
  nd : N.sb.Nodup
  gd : ∀ (i j g a b : Nat), N.gl[i]? = some (.rw g 1 0 a) → N.gl[j]? = some (.rw g 1 0 b) → i = j
  Sp : S p ∧ S N.gs ∧ S N.gt
  lt : ∀ j, S j → j < n
  ok : PoolOk d
def Pool (H : Hp) (n : Nat) (S : Nat → Prop) (p : Nat) (d : PoolD) : Prop := ∃ N, PoolH H n S p N d
def PoolP (H : Hp) (n : Nat) (S : Nat → Prop) (p : Nat) (d' : PoolD) (res r : AV) (H' : Hp) (n' : Nat) : Prop :=
  r = res ∧ ∃ S', Pool H' n' S' p d' ∧ n ≤ n' ∧ ∀ j, j < n → ¬ S j → H' j = H j ∧ ¬ S' j
section
variable {H H' : Hp} {n n' p : Nat} {S : Nat → Prop} {d : PoolD} {N : PoolN}
theorem LandV.frame {l : LandD} {v : AV} (h : LandV H S l v) (hh : ∀ j, S j → H' j = H j) : LandV H' S l v := by
  rcases h with h | ⟨g, h1, h2, h3⟩
  · exact .inl h
  · exact .inr ⟨g, h1, (hh g h3.1).trans h2, h3⟩
theorem PoolH.frame (h : PoolH H n S p N d) (hn : n ≤ n') (hh : ∀ j, S j → H' j = H j) : PoolH H' n' S p N d :=
  ⟨(hh _ h.Sp.1).trans h.pl, (hh _ h.Sp.2.1).trans h.gs, (hh _ h.Sp.2.2).trans h.gt, fun j s b h1 h2 => by
    obtain ⟨q1, q2⟩ := h.sb j s b h1 h2
    exact ⟨(hh _ q2).trans q1, q2⟩, h.gl, h.sl, fun i l v h1 h2 => (h.ln i l v h1 h2).frame hh, h.nd, h.gd, h.Sp, fun j hj => Nat.lt_of_lt_of_le (h.lt j hj) hn, h.ok⟩
theorem Pool.frame (h : Pool H n S p d) (hn : n ≤ n') (hh : ∀ j, S j → H' j = H j) : Pool H' n' S p d := by
  obtain ⟨N, h⟩ := h
  exact ⟨N, h.frame hn hh⟩
theorem Pool.lt (h : Pool H n S p d) : ∀ j, S j → j < n := by
  obtain ⟨N, h⟩ := h
  exact h.lt
theorem Pool.ok (h : Pool H n S p d) : PoolOk d := by
  obtain ⟨N, h⟩ := h
  exact h.ok
theorem Pool.Sp (h : Pool H n S p d) : S p := by
  obtain ⟨N, h⟩ := h
  exact h.Sp.1
theorem Pool.nu {m : Nat} (h : Pool H n S p d) (hm : n ≤ m) : ¬ S m := fun hs => Nat.lt_irrefl _ (Nat.lt_of_lt_of_le (h.lt m hs) hm)
theorem Pool.u {m : Nat} {o : Option AO} (h : Pool H n S p d) (hm : ¬ S m) : Pool (upd H m o) n S p d :=
  h.frame (Nat.le_refl _) fun j hj => upd_other (fun e => hm (e ▸ hj))
theorem Pool.new {m : Nat} {o : Option AO} (h : Pool H n S p d) (hm : n ≤ m) (hn : n ≤ n') : Pool (upd H m o) n' S p d :=
  (h.u (h.nu hm)).frame hn fun _ _ => rfl
theorem poolP_same {d' : PoolD} {r : AV} (hn : n ≤ n') (h' : Pool H' n' S p d') (hk : ∀ j, j < n → ¬ S j → H' j = H j) : PoolP H n S p d' r r H' n' := ⟨rfl, S, h', hn, fun j hj hs => ⟨hk j hj hs, hs⟩⟩
theorem heap_ne {a b : Nat} {x y : AO} (ha : H a = some x) (hb : H b = some y) (hxy : x ≠ y) : a ≠ b := fun e => by
  rw [e, hb] at ha
  injection ha with ha
  exact hxy ha.symm
theorem PoolH.nes (h : PoolH H n S p N d) : N.gt ≠ p ∧ N.gt ≠ N.gs ∧ N.gs ≠ p :=
  ⟨heap_ne h.gt h.pl (by intro e; cases e), heap_ne h.gt h.gs (by intro e; cases e), heap_ne h.gs h.pl (by intro e; cases e)⟩
theorem PoolH.nesB (h : PoolH H n S p N d) {s : Nat} {b : List UInt8} (hs : H s = some (.row true 5 (b.map byteA))) : s ≠ p ∧ s ≠ N.gs ∧ s ≠ N.gt :=
  ⟨heap_ne hs h.pl (by intro e; cases e), heap_ne hs h.gs (by intro e; cases e), heap_ne hs h.gt (by intro e; cases e)⟩
theorem PoolH.nesG (h : PoolH H n S p N d) {g : Nat} {l : List Nat} (hs : H g = some (.row false 3 (l.map natI))) : g ≠ p ∧ g ≠ N.gs ∧ g ≠ N.gt :=
  ⟨heap_ne hs h.pl (by intro e; cases e), heap_ne hs h.gs (by intro e; cases e), heap_ne hs h.gt (by intro e; cases e)⟩
/-- What the walk is told of one region's cells. -/
theorem PoolH.at (h : PoolH H n S p N d) {i : Nat} {l : LandD} (hl : d.lands[i]? = some l) : ∃ v, N.gl[i]? = some v ∧ LandV H S l v ∧ i < 256 ∧
    List.drop (i * 4) (landsC d.lands N.gl) = .lit (.bool l.there) :: .lit (.int .i64 (l.gen : Int)) :: v :: .lit (.int .i64 (l.fill : Int)) :: landsC (d.lands.drop (i + 1)) (N.gl.drop (i + 1)) := by
  have hlt := (List.getElem?_eq_some_iff.1 hl).1
  rw [h.ok.ll] at hlt
  obtain ⟨v, hv⟩ : ∃ v, N.gl[i]? = some v := ⟨_, List.getElem?_eq_getElem (by rw [h.gl]; exact hlt)⟩
  exact ⟨_, hv, h.ln i l _ hl hv, hlt, landsC_drop hl hv⟩
end
end Go.Proofs.Ytndojmpgadbefaa
