/- Layer 9: the reference's digits and Show walked. -/
import Derived.Test.YtplneobjdpdlhaaDoorNsR3
import Derived.Test.YtplneobjdpdlhaaDoorNsT0
namespace Go.Proofs.YtplneobjdpdlhaaDoor
set_option linter.unusedVariables false
open Go.RowKit
theorem conv_one9 (w : World) (x : Int) (n : UInt8) (b cap : Nat) (hb : b = w.heap.size) (h : x = (n.toNat : Int)) : (convert 59 9 (.slice (some ⟨b, 0, none⟩) 1 cap)).run Tryd.prog (w.alloc (.cells #[.int .u8 x] 5)) = .ok (.string ⟨#[n]⟩) (w.alloc (.cells #[.int .u8 x] 5)) := by
  subst hb h
  exact str_of_reads (l := [n]) (Reads.made w [.int .u8 n.toNat] _)
theorem conv_two9 (w : World) (x y : Int) (n m : UInt8) (b cap : Nat) (hb : b = w.heap.size) (h : x = (n.toNat : Int)) (h2 : y = (m.toNat : Int)) : (convert 59 9 (.slice (some ⟨b, 0, none⟩) 2 cap)).run Tryd.prog (w.alloc (.cells #[.int .u8 x, .int .u8 y] 5)) = .ok (.string ⟨#[n, m]⟩) (w.alloc (.cells #[.int .u8 x, .int .u8 y] 5)) := by
  subst hb h h2
  exact str_of_reads (l := [n, m]) (Reads.made w [.int .u8 n.toNat, .int .u8 m.toNat] _)
theorem byte_of9 {n : Nat} (h : n < 256) : ∃ b : UInt8, Hid (UInt8.ofNat n = b) ∧ b.toNat = n := ⟨_, rfl, by rw [UInt8.toNat_ofNat', Nat.mod_eq_of_lt h]⟩
set_option maxRecDepth 10000 in
theorem digits9_any (n : Nat) (w : World) (hn : n < 100) : Calls Tryd.prog 37 #[.int .i64 n] w fun e w' => e = .returned (.string ⟨(Lib.decDigits n).toArray⟩) ∧ Below w.heap.size w w' := by
  have H := Lib.hid (dig_is hn)
  rw [H.out]
  by_cases h : n < 10
  · have t0 : decide ((n : Int) < 10) = true := by simp; omega
    obtain ⟨b, h1, h2⟩ := byte_of9 (n := 48 + n) (by omega)
    have hc := conv_one9 w (48 + (n : Int)) b _ 1 rfl (by omega)
    have HF : Hid (digP n = [b]) := by show _ = _; unfold digP; rw [if_pos h, h1.out]
    clear h2 h H
    go_enter Tryd.func37, Tryd.ntmps37
    go_wp2_with fail
    go_ret
    exact ⟨by rw [HF.out]; rfl, (Below.refl _ _).alloc (Nat.le_refl _) _⟩
  · have t0 : decide ((n : Int) < 10) = false := by simp; omega
    obtain ⟨q, hq⟩ : ∃ q, Hid (n / 10 = q) := ⟨_, rfl⟩
    obtain ⟨r, hr⟩ : ∃ r, Hid (n % 10 = r) := ⟨_, rfl⟩
    have hq1 : q < 10 := by have := hq.out; omega
    have hr1 : r < 10 := by have := hr.out; omega
    have k1 : IntKind.i64.wrap ((n : Int) / 10) = (q : Int) := by rw [IntWalk.i64_in _ (by omega)]; have := hq.out; omega
    have k0 : (n : Int) / 10 = (q : Int) := by have := hq.out; omega
    have k2 : (n : Int).tmod 10 = (r : Int) := by rw [Int.tmod_eq_emod_of_nonneg (by omega)]; have := hr.out; omega
    have k3 : (n : Int) % 10 = (r : Int) := by have := hr.out; omega
    obtain ⟨b, h1, h2⟩ := byte_of9 (n := 48 + q) (by omega)
    obtain ⟨c, h3, h4⟩ := byte_of9 (n := 48 + r) (by omega)
    have hc := conv_two9 w (48 + (q : Int)) (48 + (r : Int)) b c _ 2 rfl (by omega) (by omega)
    have HF : Hid (digP n = [b, c]) := by show _ = _; unfold digP; rw [if_neg h, hq.out, hr.out, h1.out, h3.out]
    clear h2 h4 h H
    go_enter Tryd.func37, Tryd.ntmps37
    go_wp2_with fail
    go_ret
    exact ⟨by rw [HF.out]; rfl, (Below.refl _ _).alloc (Nat.le_refl _) _⟩
/-- the elements of a list of numbers that lies at a place -/
theorem mem_at {w : World} {B n b o : Nat} {l : List Nat} (h : Reads w B 1 (some ⟨b, o, none⟩) n (ints (natI l))) {k : Nat} (hk : k < n) :
    ∃ x : Nat, l[k]? = some x ∧ b < B ∧ w.cell? ⟨b, o + k, none⟩ = some (.int .i64 x) := by
  obtain ⟨b', o', x, e', hb, hx, d0⟩ := h.num_at hk
  have e1 : b = b' ∧ o = o' := by simpa using e'
  rw [← e1.1, ← e1.2] at d0
  obtain ⟨m, rfl, hm⟩ := natI_at hx.out
  exact ⟨m, hm, by rw [e1.1]; exact hb, d0⟩
/-- from i on so many follow on one another, up to k -/
def RunTo (l : List Nat) (i k a : Nat) : Prop := l.drop i = List.range' a (k - i + 1) ++ l.drop (k + 1)
theorem runTo_start {l : List Nat} {i a : Nat} (h : l[i]? = some a) : RunTo l i i a := by
  unfold RunTo
  rw [Nat.sub_self]
  obtain ⟨h1, h2⟩ := List.getElem?_eq_some_iff.1 h
  rw [List.drop_eq_getElem_cons h1, h2]; rfl
theorem runTo_step {l : List Nat} {i k a : Nat} (hik : i ≤ k) (h : RunTo l i k a) (hx : l[k + 1]? = some (a + (k - i) + 1)) : RunTo l i (k + 1) a := by
  unfold RunTo at *
  obtain ⟨h1, h2⟩ := List.getElem?_eq_some_iff.1 hx
  have e : List.range' a ((k - i + 1) + 1) = List.range' a (k - i + 1) ++ [a + (k - i) + 1] := by
    rw [List.range'_concat]
    congr 2
    omega
  rw [h, List.drop_eq_getElem_cons h1, h2, show k + 1 - i + 1 = (k - i + 1) + 1 by omega, e, List.append_assoc]
  rfl
theorem runTo_at {l : List Nat} {i k a : Nat} (hik : i ≤ k) (h : RunTo l i k a) : l[k]? = some (a + (k - i)) := by
  unfold RunTo at h
  have h1 : (l.drop i)[k - i]? = some (a + (k - i)) := by
    rw [h, List.getElem?_append_left (by rw [List.length_range']; omega), List.getElem?_range' (by omega)]; simp
  rw [List.getElem?_drop] at h1
  rwa [Nat.add_sub_cancel' hik] at h1
theorem runTo_end {l : List Nat} {i k a : Nat} (h : RunTo l i k a) (hx : l[k + 1]? ≠ some (a + (k - i) + 1)) : runsL (l.drop i) = (a, a + (k - i)) :: runsL (l.drop (k + 1)) := by
  unfold RunTo at h
  rw [h]
  exact run_step (k - i) a _ (by rw [List.head?_drop]; exact hx)
/-- what is written when the runs ahead are done -/
def Done (l : List Nat) (i : Nat) (D : ByteArray) : Prop := ∃ done, runsL l = done ++ runsL (l.drop i) ∧ D.data.toList = Lib.join (done.map segT) [44] ∧ (0 < i → done ≠ []) ∧ (i = 0 → done = [])
theorem done_next {l : List Nat} {i k a : Nat} {D E : ByteArray} (h : Done l i D) (hr : RunTo l i k a) (hx : l[k + 1]? ≠ some (a + (k - i) + 1)) (hik : i ≤ k)
    (hE : E.data.toList = D.data.toList ++ (if 0 < i then [44] else []) ++ segT (a, a + (k - i))) : Done l (k + 1) E := by
  obtain ⟨done, h1, h2, h3, h4⟩ := h
  refine ⟨done ++ [(a, a + (k - i))], ?_, ?_, fun _ => by simp, fun e => by omega⟩
  · rw [h1, runTo_end hr hx]; simp
  · rw [hE, h2, List.map_append]
    by_cases hi : 0 < i
    · rw [if_pos hi, List.map_cons, List.map_nil, join_snoc (by simpa using h3 hi)]
    · rw [if_neg hi, h4 (by omega)]
      simp [Lib.join_nil, Lib.join_one]
theorem done_all {l : List Nat} {n : Nat} {D : ByteArray} (h : Done l n D) (hn : l.length = n) : D.data.toList = Lib.join ((runsL l).map segT) [44] := by
  obtain ⟨done, h1, h2, _, _⟩ := h
  rw [h1, List.drop_of_length_le (by omega), h2]; simp [runsL]
end Go.Proofs.YtplneobjdpdlhaaDoor
