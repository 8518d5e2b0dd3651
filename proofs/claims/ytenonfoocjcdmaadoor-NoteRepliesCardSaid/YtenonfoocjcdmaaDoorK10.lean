/- Layer 5: tokens joined. Layer 5: the reference's digits, written, Check, Text. Layer 5: the reference's Join. Arguments of layer 5's statements opened; a table of Go's library. -/
import Derived.Test.YtenonfoocjcdmaaDoorK9
import Derived.Test.YtenonfoocjcdmaaDoorJn
import Derived.Test.YtenonfoocjcdmaaDoorK5
import Derived.Test.YtenonfoocjcdmaaDoorK8
import Derived.Test.YtenonfoocjcdmaaDoorK4
import Derived.Test.YtenonfoocjcdmaaDoorK1
import Derived.Lib.SmallJoins
import Derived.LaidSub
import Derived.Lib.LaidTab
import Derived.OpenShut
import Derived.MakeChecks
namespace Go.Proofs.YtenonfoocjcdmaaDoor
set_option linter.unusedVariables false
open Go.RowKit
def joinP (l : List Tk) : ByteArray × Int := if (l.all fun t => checkP t == 0) then (if (joinB l).length ≤ 400 then (⟨(joinB l).toArray⟩, 0) else (⟨#[]⟩, 3)) else (⟨#[]⟩, 50)
theorem joinB_le : ∀ {l : List Tk}, (∀ t ∈ l, checkP t = 0) → (joinB l).length ≤ 401 * l.length
  | [], _ => by simp [joinB, Lib.join_nil]
  | [t], h => by
    have h1 := (check_zero (h t (by simp))).1
    have e : joinB [t] = bl (writtenP t) := by unfold joinB; rw [List.map_singleton, Lib.join_one]
    rw [e, size_bl]; simp; omega
  | t :: u :: l, h => by
    have h1 := (check_zero (h t (by simp))).1
    have h2 := joinB_le (l := u :: l) (fun x hx => h x (List.mem_cons_of_mem _ hx))
    rw [joinB_cons, List.length_append, size_bl]
    simp only [List.length_cons] at h2 ⊢
    omega
theorem joinB_nil : joinB [] = [] := rfl
theorem joinB_one (t : Tk) : joinB [t] = bl (writtenP t) := by unfold joinB; rw [List.map_singleton, Lib.join_one]
theorem joinB_snoc : ∀ (l : List Tk) (t : Tk), l ≠ [] → joinB (l ++ [t]) = joinB l ++ 32 :: bl (writtenP t)
  | [], t, h => absurd rfl h
  | [x], t, _ => by show joinB (x :: t :: []) = _; rw [joinB_cons, joinB_one, joinB_one]
  | x :: y :: l, t, _ => by
    show joinB (x :: y :: (l ++ [t])) = _
    rw [joinB_cons, joinB_cons]
    have := joinB_snoc (y :: l) t (by simp)
    rw [List.cons_append] at this
    rw [this]; simp
theorem Tryd.infoS : (Tryd.prog.info? 9).map (fun i => (i.zero, i.size, i.bytes)) = some (some (.string ⟨#[]⟩), 1, 16) := by kernel_rfl
/-- strings as cells -/
def strs (l : List ByteArray) : List Value := l.map Value.string
theorem strs_app (a b : List ByteArray) : strs (a ++ b) = strs a ++ strs b := by simp [strs]
theorem strs_one (l : List ByteArray) : ∀ u ∈ strs l, u.oneCell' = true := by
  intro u hu
  simp only [strs, List.mem_map] at hu
  obtain ⟨x, _, rfl⟩ := hu
  rfl
theorem app_s {w : World} {ops : Array Oper} {rest : List Oper} {o : Oper} {a : Act} {Q : Exit → Act → World → Prop} {s x : Operand}
    (hgd : o.guard = none) (ho : o.op = .call { callee := .builtin .append, args := #[s, x], argTypes := #[98, 98] })
    (base : Nat) {v : Value} {n : Nat} {xs : List ByteArray} (hs : a.eval s = v) (hown : Owns w base 9 1 v n (strs xs))
    {B : Nat} {A : Option Addr} {m c : Nat} {news : List ByteArray} (hx : a.eval x = .slice A m c) (hr : Reads w B 1 A m (strs news))
    (hlen : n + m ≤ 1000000) (hbase : base ≤ w.heap.size)
    (h : ∀ v' w', Owns w' base 9 1 v' (n + m) (strs (xs ++ news)) → AppKeeps base v w w' → (v'.ownBlock = v.ownBlock ∨ v'.ownBlock = some w.heap.size) → wpList Tryd.prog ops Q rest (a.put o.dst v') w') : wpList Tryd.prog ops Q (o :: rest) a w :=
  wp_app hgd ho Tryd.underlying98 Tryd.infoS rfl (by omega) base hs hown hx hr (strs_one _) (by simp only [maxLen]; omega) (by omega) hbase (fun v' w' h1 => h v' w' (by rw [strs_app]; exact h1))
/-- a round's state: so many tokens have been written -/
def JoinInv (n B : Nat) (A : Option Addr) (l : List Tk) (w : World) (o i : Value) (wr : World) : Prop :=
  ∃ k : Nat, k ≤ n ∧ i = .int .i64 (k : Int) ∧ Owns wr w.heap.size 9 1 o k (strs ((l.take k).map writtenP)) ∧ Below w.heap.size w wr ∧ ∀ t ∈ l.take k, checkP t = 0
theorem take_snocT {α : Type} {l : List α} {k : Nat} {r : α} (h : l[k]? = some r) : l.take (k + 1) = l.take k ++ [r] := by rw [List.take_add_one, h]; rfl
set_option maxHeartbeats 2000000 in
theorem lexjoin_any (A : Option Addr) (n c B : Nat) (l : List Tk) (w : World) (hr : Reads w B 4 A n (recs tkC l)) (hB : B ≤ w.heap.size) (hn : n ≤ 100000) (hT : ∀ t ∈ l, TkOk w t) :
    Calls Tryd.prog 24 #[.slice A n c] w fun e w' => e = .returned (.tuple #[.string (joinP l).1, .int .i64 (joinP l).2]) ∧ Below w.heap.size w w' := by
  have hlen := hr.rec_len tkC_len (by omega)
  have HT := Lib.hid hT
  clear hT
  go_enter Tryd.func24, Tryd.ntmps24
  go_wp2
  go_loopw [4, 12] (JoinInv n B A l w) (fun _ i _ => n - (intOf i).toNat)
  case atStart => exact ⟨0, Nat.zero_le _, rfl, Owns.nil, Below.refl _ _, by simp⟩
  case round =>
    obtain ⟨k, hk, rfl, hown, hbr, hall⟩ := hrel
    have hsz := hbr.size
    by_cases hlt : k < n
    · have hr1 := hr.below (hbr.mono hB)
      obtain ⟨b, o, u, rfl, hbb, hx, c0, c1, c2, c3⟩ := hr1.tk_at hlt
      have hmem : u ∈ l := List.mem_of_getElem? hx.out
      have htx := Lib.hid (fun v (hv : Below w.heap.size w v) => lextext_any u v ((HT.out u hmem).below hv))
      have hj0 : (0 : Int) ≤ (k : Int) := by omega
      have hj1 : (k : Int) < (n : Int) := by omega
      have hO := Lib.hid hown
      have hA := Lib.hid hall
      have hW := Lib.hid hbr
      clear hown hall hbr hr1 hmem
      rcases check_cases u with hq | hq
      · rw [hq, if_pos rfl] at htx
        have hq1 := Lib.hid hq
        obtain ⟨S, hS⟩ : ∃ S, Hid (writtenP u = S) := ⟨_, rfl⟩
        rw [hS.out] at htx
        unfold tkV at htx
        clear hq
        go_wp2_with (first
          | (go_at_call 26; refine (htx.out _ (hW.out.alloc hsz _)).mono ?_; rintro e w2 ⟨rfl, hb2⟩; have hO2 := Lib.hid ((hO.out.alloc _).below hb2); have hW2 := Lib.hid ((hW.out.alloc hsz _).trans (hb2.mono (by simp; omega))); have hsz2 : w.heap.size ≤ w2.heap.size := hW2.out.size; clear hb2)
          | (at_builtin; refine app_s rfl rfl w.heap.size rfl (hO2.out.alloc _) (news := [S]) rfl (Reads.made w2 [Value.string S] _) (by omega) (by simp only [World.size_alloc]; omega) ?_))
        intro v4 w4 o4 k4 _
        have kb4 := k4.below ((hW2.out).alloc hsz2 _) (Nat.le_refl _) (by simp only [World.size_alloc]; omega)
        clear k4
        go_wp2
        go_roundw
        case rel =>
          refine ⟨k + 1, by omega, by go_num, ?_, kb4, ?_⟩
          · rw [take_snocT hx.out, List.map_append, List.map_take, List.map_singleton, hS.out]; exact o4
          · intro t ht
            rw [take_snocT hx.out, List.mem_append] at ht
            rcases ht with ht | ht
            · exact hA.out t ht
            · rw [List.mem_singleton] at ht; subst ht; exact hq1.out
        case measure => simp [intOf]; omega
      · have hP : Hid (joinP l = (⟨#[]⟩, 50)) := by
          show _ = _
          unfold joinP
          rw [if_neg]
          intro hh
          have := (List.all_eq_true.1 hh) u (List.mem_of_getElem? hx.out)
          rw [hq] at this; cases this
        rw [hq, if_neg (by decide)] at htx
        unfold tkV at htx
        clear hq
        go_wp2_with (go_at_call 26; refine (htx.out _ (hW.out.alloc hsz _)).mono ?_; rintro e w2 ⟨rfl, hb2⟩)
        go_ret2
        rw [hP.out]
        exact ⟨rfl, (hW.out.alloc hsz _).trans (hb2.mono (by simp; omega))⟩
    · obtain rfl : k = n := by omega
      have e : l.take k = l := List.take_of_length_le (by rw [hlen.out]; omega)
      rw [e] at hown hall
      obtain ⟨A2, c2, rfl, hc2, hm2⟩ := hown.slice
      have hrd := Lib.hid hown.reads
      have hle := joinB_le hall
      rw [hlen.out] at hle
      have heq : Lib.join ((l.map writtenP).map (·.data.toList)) (⟨#[32]⟩ : ByteArray).data.toList = joinB l := by
        unfold joinB; rw [List.map_map]; rfl
      have hjn := fun v (hv : Reads v wr.heap.size 1 A2 k ((l.map writtenP).map Value.string)) (hb : wr.heap.size ≤ v.heap.size) => join_any A2 k c2 wr.heap.size (l.map writtenP) ⟨#[32]⟩ v hv hb hc2 (by omega) (by rw [heq]; omega)
      rw [heq] at hjn
      obtain ⟨S, hS1, hS2, hS3⟩ := ba_of (joinB l)
      rw [hS2.out] at hjn
      have HJ := Lib.hid hjn
      have hW := Lib.hid hbr
      have hP : (joinB l).length ≤ 400 → Hid (joinP l = (S, 0)) := by
        intro hh; show _ = _
        unfold joinP
        rw [if_pos (List.all_eq_true.2 (fun t ht => by rw [hall t ht]; rfl)), if_pos hh, hS2.out]
      have hP3 : ¬ (joinB l).length ≤ 400 → Hid (joinP l = (⟨#[]⟩, 3)) := by
        intro hh; show _ = _
        unfold joinP
        rw [if_pos (List.all_eq_true.2 (fun t ht => by rw [hall t ht]; rfl)), if_neg hh]
      rw [← hS3] at hP hP3
      clear hown hall hbr hjn heq e hle hS3
      by_cases h4 : S.size ≤ 400
      · have t4 : decide ((400 : Int) < (S.size : Int)) = false := by simp; omega
        have hp := hP h4
        clear hP hP3
        go_wp2_with (go_at_call 54; refine (HJ.out _ hrd.out (Nat.le_refl _)).mono ?_; rintro e w2 ⟨rfl, hb2⟩)
        go_ret2
        rw [hp.out]
        exact ⟨rfl, hW.out.trans (hb2.mono (by omega))⟩
      · have t4 : decide ((400 : Int) < (S.size : Int)) = true := by simp; omega
        have hp := hP3 h4
        clear hP hP3
        go_wp2_with (go_at_call 54; refine (HJ.out _ hrd.out (Nat.le_refl _)).mono ?_; rintro e w2 ⟨rfl, hb2⟩)
        go_ret2
        rw [hp.out]
        exact ⟨rfl, hW.out.trans (hb2.mono (by omega))⟩
end Go.Proofs.YtenonfoocjcdmaaDoor

namespace Go.Proofs.YtenonfoocjcdmaaDoor
set_option linter.unusedVariables false
open Go.RowKit
theorem str_app1 {s : ByteArray} {l : List UInt8} {b : UInt8} (h : (⟨l.toArray⟩ : ByteArray) = s) : s ++ (⟨#[b]⟩ : ByteArray) = ⟨(l ++ [b]).toArray⟩ := by
  subst h
  apply Go.WideShapes.bytes_inj
  simp [ByteArray.data_append]
theorem dd_len : ∀ (k n : Nat), 0 < k → n < 10 ^ k → (Lib.decDigits n).length ≤ k := by
  intro k
  induction k with
  | zero => intro n h; omega
  | succ k ih =>
    intro n _ hn
    by_cases h : n < 10
    · rw [dd_lt h]; simp
    · rw [dd_ge h, List.length_append]
      have hk : 0 < k := by
        rcases Nat.eq_zero_or_pos k with h0 | h0
        · subst h0; simp at hn; omega
        · exact h0
      have := ih (n / 10) hk (by rw [Nat.pow_succ] at hn; omega)
      simp; omega
set_option maxRecDepth 10000 in
theorem digits05_lt (n : Nat) (w : World) (hn : n < 10) : Calls Tryd.prog 81 #[.int .i64 n] w fun e w' => e = .returned (.string ⟨(Lib.decDigits n).toArray⟩) ∧ Below w.heap.size w w' := by
  have H := Lib.hid (dd_lt hn)
  obtain ⟨b, h1, h2⟩ := byte_of (n := 48 + n) (by omega)
  have hc := conv_one w (48 + (n : Int)) b _ 1 rfl (by omega)
  have t0 : decide ((n : Int) < 0) = false := by simp
  clear h2
  go_enter Tryd.func81, Tryd.ntmps81
  go_wp2_with fail
  go_ret
  exact ⟨by rw [H.out, h1.out]; rfl, (Below.refl _ _).alloc (Nat.le_refl _) _⟩
set_option maxRecDepth 10000 in
theorem digits05_any : ∀ (n : Nat) (w : World), n ≤ 9223372036854775807 → Calls Tryd.prog 81 #[.int .i64 n] w fun e w' => e = .returned (.string ⟨(Lib.decDigits n).toArray⟩) ∧ Below w.heap.size w w' := by
  intro n
  induction n using Nat.strongRecOn with
  | _ n ih =>
  intro w hn
  by_cases h : n < 10
  · exact digits05_lt n w h
  · have H := Lib.hid (dd_ge h)
    obtain ⟨q, hq⟩ : ∃ q, Hid (n / 10 = q) := ⟨_, rfl⟩
    obtain ⟨r, hr⟩ : ∃ r, Hid (n % 10 = r) := ⟨_, rfl⟩
    have hq1 : q < n := by have := hq.out; omega
    have hr1 : r < 10 := by have := hr.out; omega
    have IH := Lib.hid (fun v => ih q hq1 v (by omega))
    have t0 : decide ((n : Int) < 0) = false := by simp
    have k1 : IntKind.i64.wrap ((n : Int) / 10) = (q : Int) := by rw [IntWalk.i64_in _ (by omega)]; have := hq.out; omega
    have k2 : (n : Int).tmod 10 = (r : Int) := by rw [Int.tmod_eq_emod_of_nonneg (by omega)]; have := hr.out; omega
    have k3 : IntKind.i64.wrap (48 + (r : Int)) = 48 + (r : Int) := IntWalk.i64_in _ (by omega)
    have k4 : IntKind.u8.wrap (48 + (r : Int)) = 48 + (r : Int) := IntWalk.u8_in _ (by omega)
    obtain ⟨b, h1, h2⟩ := byte_of (n := 48 + r) (by omega)
    have hc := fun (W : World) (g : Nat) => conv_cell (w := W) (b := g) (cap := 1) (x := 48 + (r : Int)) (n := b) (by omega)
    obtain ⟨D, hD1, hD2, hD3⟩ := ba_of (Lib.decDigits q)
    have HF : Hid (Lib.decDigits n = Lib.decDigits q ++ [b]) := by show _ = _; rw [H.out, hq.out, hr.out, h1.out]
    have HS := Lib.hid (str_app1 (b := b) hD2.out)
    have hD4 : D.size ≤ 20 := by rw [hD3]; exact dd_len 20 q (by omega) (by omega)
    clear h2 ih hD3
    go_enter Tryd.func81, Tryd.ntmps81
    go_wp2_with fail
    go_region_with (go_at_call 81; refine (IH.out _).mono ?_; rintro e w1 ⟨rfl, hb1⟩; rw [hD2.out]; have hcc := fun b o h => hb1.cell (p := ⟨b, o, none⟩) h)
    all_goals
      go_wp2_with fail
      go_ret
      refine ⟨by rw [HF.out, ← HS.out]; rfl, ?_⟩
      have hz1 := hb1.size
      (try simp only [World.size_alloc, World.size_drew] at hz1)
      first
      | exact ((below_drew (Below.refl _ _)).trans (hb1.mono (by simp))).alloc (by omega) _
      | exact (below_drew ((Below.refl _ _).alloc (Nat.le_refl _) _)).trans (hb1.mono (by simp))
theorem digits05_neg (n : Int) (w : World) (hn : n < 0) : Calls Tryd.prog 81 #[.int .i64 n] w fun e w' => e = .returned (.string ⟨#[]⟩) ∧ Below w.heap.size w w' := by
  go_enter Tryd.func81, Tryd.ntmps81
  go_wp2_with fail
  go_ret
  exact ⟨rfl, Below.refl _ _⟩
/-- numbers and texts that the reference may write -/
def TkR (t : Tk) : Prop := t.text.size ≤ 1000000 ∧ t.num ≤ 9223372036854775807
theorem written05_any (t : Tk) (w : World) (h : TkR t) :
    Calls Tryd.prog 56 #[tkV t] w fun e w' => e = .returned (.string (writtenR t)) ∧ Below w.heap.size w w' := by
  obtain ⟨hs, hn⟩ := h
  have hB := Lib.hid (boxW_below t w)
  unfold tkV
  by_cases h2 : t.kind = 2
  · have t2 : (t.kind == 2) = true := by simpa using h2
    by_cases h0 : t.num < 0
    · have hd := Lib.hid (digits05_neg t.num (boxW t w) h0)
      have hP2 : Hid (writtenR t = ⟨#[]⟩) := by show _ = _; unfold writtenR; rw [if_pos ⟨h2, h0⟩]
      clear h0 h2
      go_enter Tryd.func56, Tryd.ntmps56
      go_wp2_with (go_at_call 81; refine Calls.mono hd.out ?_; rintro e w1 ⟨rfl, hb1⟩)
      go_ret
      exact ⟨by rw [hP2.out]; first | done | rfl, hB.out.trans (hb1.mono (by simp [boxW]))⟩
    · obtain ⟨n, hnn⟩ := Int.eq_ofNat_of_zero_le (show 0 ≤ t.num by omega)
      have hd := Lib.hid (digits05_any n (boxW t w) (by omega))
      have hP2 : Hid (writtenR t = ⟨(Lib.decDigits n).toArray⟩) := by show _ = _; unfold writtenR writtenP; rw [if_neg (fun x => h0 x.2), if_pos h2, hnn, itoa_nat]
      rw [← hnn] at hd
      clear h0 h2 hnn
      go_enter Tryd.func56, Tryd.ntmps56
      go_wp2_with (go_at_call 81; refine Calls.mono hd.out ?_; rintro e w1 ⟨rfl, hb1⟩)
      go_ret
      exact ⟨by rw [hP2.out]; first | done | rfl, hB.out.trans (hb1.mono (by simp [boxW]))⟩
  · have t2 : (t.kind == 2) = false := by simpa using h2
    have hw : writtenR t = writtenP t := by unfold writtenR; rw [if_neg (fun x => h2 x.1)]
    rw [hw]
    clear hw
    by_cases h4 : t.kind = 4
    · have t4 : (t.kind == 4) = true := by simpa using h4
      by_cases hok : okL (bl t.text) = true
      · have hq := Lib.hid (rquote_ok t.text (boxW t w) (by omega) hok)
        have hP2 : Hid (writtenP t = ⟨(quoteL (bl t.text)).toArray⟩) := by show _ = _; unfold writtenP; rw [if_neg h2, if_pos h4, if_pos hok]
        clear h2 h4 hok
        go_enter Tryd.func56, Tryd.ntmps56
        go_wp2_with (go_at_call 82; refine Calls.mono hq.out ?_; rintro e w1 ⟨rfl, hb1⟩)
        go_ret
        exact ⟨by rw [hP2.out]; first | done | rfl, hB.out.trans (hb1.mono (by simp [boxW]))⟩
      · have hq := Lib.hid (rquote_bad t.text (boxW t w) (by unfold maxLen; omega) (by simpa using hok))
        have hP2 : Hid (writtenP t = ⟨#[]⟩) := by show _ = _; unfold writtenP; rw [if_neg h2, if_pos h4, if_neg hok]
        clear h2 h4 hok
        go_enter Tryd.func56, Tryd.ntmps56
        go_wp2_with (go_at_call 82; refine Calls.mono hq.out ?_; rintro e w1 ⟨rfl, hb1⟩)
        go_ret
        exact ⟨by rw [hP2.out]; first | done | rfl, hB.out.trans (hb1.mono (by simp [boxW]))⟩
    · have t4 : (t.kind == 4) = false := by simpa using h4
      have hP2 : Hid (writtenP t = t.text) := by show _ = _; unfold writtenP; rw [if_neg h2, if_neg h4]
      clear h2 h4
      go_enter Tryd.func56, Tryd.ntmps56
      go_wp2
      go_ret
      exact ⟨by rw [hP2.out]; first | done | rfl, hB.out⟩
theorem neq_text {a b : ByteArray} : (a.toList != b.toList) = true ↔ a ≠ b := by
  rw [bne_iff_ne, ne_eq, ne_eq, not_congr]
  constructor
  · intro h; rw [ByteArray.toList_eq, ByteArray.toList_eq] at h; exact Go.WideShapes.bytes_inj h
  · intro h; rw [h]
set_option maxHeartbeats 1000000 in
theorem check05_any (t : Tk) (w : World) (h : TkR t) :
    Calls Tryd.prog 29 #[tkV t] w fun e w' => e = .returned (.int .i64 (checkP t)) ∧ Below w.heap.size w w' := by
  rw [← checkR_eq]
  have hB := Lib.hid (boxW_below t w)
  have hwr := Lib.hid (written05_any t (boxW t w) h)
  have htk := Lib.hid (fun v => tokens05_any (writtenR t) v)
  have hbx := Lib.hid (heap_alloc_new w (.cells #[.int .i64 t.kind, .string t.text, .int .i64 t.num, .int .i64 t.at_] 42))
  have hP : Hid (checkR t = if (tokP (writtenR t)).2.2 = 0 then (match (tokP (writtenR t)).1 with | [x] => if x.kind = t.kind ∧ x.text = t.text ∧ x.num = t.num then 0 else 50 | _ => 50) else 50) := rfl
  have hsz : (boxW t w).heap.size = w.heap.size + 1 := by simp [boxW]
  obtain ⟨s, hs⟩ : ∃ s, Hid (writtenR t = s) := ⟨_, rfl⟩
  rw [hs.out] at hwr htk hP
  obtain ⟨r, hr⟩ : ∃ r, Hid (tokP s = r) := ⟨_, rfl⟩
  rw [hr.out] at htk hP
  obtain ⟨ts, n, er⟩ := r
  dsimp only at hP
  unfold tkV at hwr ⊢
  clear h
  go_enter Tryd.func29, Tryd.ntmps29
  go_wp2_with (fail)
  refine Calls.mono hwr.out ?_
  rintro e w1 ⟨rfl, hb1⟩
  have hz1 := hb1.size
  dsimp only
  go_wp2_with (fail)
  refine (htk.out _).mono ?_
  rintro e w2 ⟨v, rfl, ho2, hb2⟩
  have hz2 := hb2.size
  have e2 := (hb2.block _ (by omega)).trans ((hb1.block _ (by omega)).trans hbx.out)
  have hB2 := Lib.hid (hB.out.trans ((hb1.trans (hb2.mono (by omega))).mono (by omega)))
  obtain ⟨f2, c20, c21, c22, c23⟩ := row4 e2
  obtain ⟨A, c, rfl, hcap, hcm⟩ := ho2.slice
  dsimp only at ho2
  replace ho2 := Lib.hid ho2
  have hlt2 := lt_of_block e2
  replace e2 := Lib.hid e2
  clear hb1 hb2 hz1 hz2 hsz
  dsimp only
  by_cases her : er = 0
  case neg =>
    have te : (er != 0) = true := by simpa using her
    have hP2 : Hid (checkR t = 50) := by show _ = _; rw [hP.out, if_neg her]
    clear her hP
    go_wp2
    go_ret
    exact ⟨by rw [hP2.out]; first | done | rfl, hB2.out⟩
  subst her
  rcases ts with _ | ⟨x, _ | ⟨y, l⟩⟩
  · have hP2 : Hid (checkR t = 50) := by show _ = _; rw [hP.out, if_pos rfl]
    clear hP
    go_wp2
    go_ret
    exact ⟨by rw [hP2.out]; first | done | rfl, hB2.out⟩
  · obtain ⟨g, c', hv, hg, hgl, _, _, hcells, _⟩ := ho2.out.at_ (by simp)
    injection hv with hA _ _
    subst hA
    have x0 : w2.cell? ⟨g, 0, none⟩ = some (.int .i64 x.kind) := hcells 0 _ rfl
    have x1 : w2.cell? ⟨g, 1, none⟩ = some (.string x.text) := hcells 1 _ rfl
    have x2 : w2.cell? ⟨g, 2, none⟩ = some (.int .i64 x.num) := hcells 2 _ rfl
    have x3 : w2.cell? ⟨g, 3, none⟩ = some (.int .i64 x.at_) := hcells 3 _ rfl
    clear hcells
    have hno : ¬ (x.kind = t.kind ∧ x.text = t.text ∧ x.num = t.num) → Hid (checkR t = 50) := fun hh => by show _ = _; rw [hP.out, if_pos rfl]; dsimp only; rw [if_neg hh]
    by_cases d1 : x.kind = t.kind
    case neg =>
      have hP2 := hno (fun hh => d1 hh.1)
      have t1 : (x.kind != t.kind) = true := by simpa using d1
      clear hP hno d1
      go_wp2
      go_ret
      exact ⟨by rw [hP2.out]; first | done | rfl, hB2.out.alloc (by omega) _⟩
    have t1 : (x.kind != t.kind) = false := by simpa using d1
    by_cases d2 : x.text = t.text
    case neg =>
      have hP2 := hno (fun hh => d2 hh.2.1)
      have t2 : (x.text.toList != t.text.toList) = true := neq_text.2 d2
      have t2' : (x.text.toList == t.text.toList) = false := by simpa using t2
      clear hP hno d1 d2
      go_wp2
      go_ret
      exact ⟨by rw [hP2.out]; first | done | rfl, hB2.out.alloc (by omega) _⟩
    have t2 : (x.text.toList != t.text.toList) = false := by rw [d2]; simp
    have t2' : (x.text.toList == t.text.toList) = true := by rw [d2]; simp
    by_cases d3 : x.num = t.num
    case neg =>
      have hP2 := hno (fun hh => d3 hh.2.2)
      have t3 : (x.num != t.num) = true := by simpa using d3
      clear hP hno d1 d2 d3
      go_wp2
      go_ret
      exact ⟨by rw [hP2.out]; first | done | rfl, hB2.out.alloc (by omega) _⟩
    have t3 : (x.num != t.num) = false := by simpa using d3
    have hP2 : Hid (checkR t = 0) := by show _ = _; rw [hP.out, if_pos rfl]; dsimp only; rw [if_pos ⟨d1, d2, d3⟩]
    clear hP hno d1 d2 d3
    go_wp2
    go_ret
    exact ⟨by rw [hP2.out]; first | done | rfl, hB2.out.alloc (by omega) _⟩
  · have hP2 : Hid (checkR t = 50) := by show _ = _; rw [hP.out, if_pos rfl]
    have hl2 : ((((x :: y :: l).length : Nat) : Int) != 1) = true := by simp; omega
    obtain ⟨N, hN⟩ : ∃ N, Hid ((x :: y :: l).length = N) := ⟨_, rfl⟩
    rw [hN.out] at hl2 ⊢
    clear hP
    go_wp2
    go_ret
    exact ⟨by rw [hP2.out]; first | done | rfl, hB2.out⟩
theorem text05_of {t : Tk} (h : checkP t = 0) : writtenR t = writtenP t := by
  unfold writtenR; rw [if_neg (fun x => by have := check_num h; omega)]
/-- a token as it is written, and an error -/
theorem text05t_any (t : Tk) (w : World) (h : TkR t) :
    Calls Tryd.prog 27 #[tkV t] w fun e w' => e = .returned (.tuple #[.string (if checkP t = 0 then writtenP t else ⟨#[]⟩), .int .i64 (checkP t)]) ∧ Below w.heap.size w w' := by
  have hB := Lib.hid (boxW_below t w)
  have hck := Lib.hid (check05_any t (boxW t w) h)
  have hwr := Lib.hid (fun v => written05_any t v h)
  have hbx := Lib.hid (heap_alloc_new w (.cells #[.int .i64 t.kind, .string t.text, .int .i64 t.num, .int .i64 t.at_] 42))
  have hsz : (boxW t w).heap.size = w.heap.size + 1 := by simp [boxW]
  have hc := check_cases t
  have hwe := fun hz => text05_of (t := t) hz
  obtain ⟨q, hq⟩ : ∃ q, Hid (checkP t = q) := ⟨_, rfl⟩
  rw [hq.out] at hck hc hwe ⊢
  unfold tkV at hwr hck ⊢
  clear h
  by_cases hq0 : q = 0
  · have tq : (q != 0) = false := by simpa using hq0
    have hwe2 := Lib.hid (hwe hq0)
    rw [if_pos hq0]
    have hq1 := Lib.hid hq0
    clear hq0 hwe hc
    go_enter Tryd.func27, Tryd.ntmps27
    go_wp2_with (first
      | (go_at_call 29; refine Calls.mono hck.out ?_; rintro e w1 ⟨rfl, hb1⟩; have e1 := (hb1.block _ (by omega)).trans hbx.out; obtain ⟨f1, c10, c11, c12, c13⟩ := row4 e1; have hB1 := Lib.hid hb1; clear hb1)
      | (go_at_call 56; refine (hwr.out _).mono ?_; rintro e w2 ⟨rfl, hb2⟩))
    go_ret2
    refine ⟨?_, hB.out.trans ((bt hB1.out hb2).mono (by omega))⟩
    rw [hq1.out, hwe2.out]; rfl
  · have tq : (q != 0) = true := by simpa using hq0
    have hq5 : Hid (q = 50) := hc.resolve_left hq0
    rw [if_neg hq0]
    clear hq0 hwe hc
    go_enter Tryd.func27, Tryd.ntmps27
    go_wp2_with (go_at_call 29; refine Calls.mono hck.out ?_; rintro e w1 ⟨rfl, hb1⟩)
    go_ret2
    exact ⟨by rw [hq5.out]; rfl, hB.out.trans (hb1.mono (by omega))⟩
end Go.Proofs.YtenonfoocjcdmaaDoor

namespace Go.Proofs.YtenonfoocjcdmaaDoor
set_option linter.unusedVariables false
open Go.RowKit
/-- a round's state: so many tokens stand in the text -/
def RJoin (n B : Nat) (A : Option Addr) (l : List Tk) (w : World) (o i : Value) (wr : World) : Prop :=
  ∃ (k : Nat) (O : ByteArray), k ≤ n ∧ i = .int .i64 (k : Int) ∧ o = .string O ∧ Hid (O.data.toList = joinB (l.take k)) ∧ O.size ≤ 401 * k ∧ Below w.heap.size w wr ∧ ∀ t ∈ l.take k, checkP t = 0
theorem app_data (a b : ByteArray) : (a ++ b).data.toList = a.data.toList ++ b.data.toList := by rw [ByteArray.data_append, Array.toList_append]
set_option maxHeartbeats 2000000 in
theorem join05_any (A : Option Addr) (n c B : Nat) (l : List Tk) (w : World) (hr : Reads w B 4 A n (recs tkC l)) (hB : B ≤ w.heap.size) (hn : n ≤ 100000) (hT : ∀ t ∈ l, TkR t) :
    Calls Tryd.prog 25 #[.slice A n c] w fun e w' => e = .returned (.tuple #[.string (joinP l).1, .int .i64 (joinP l).2]) ∧ Below w.heap.size w w' := by
  have hlen := hr.rec_len tkC_len (by omega)
  have HT := Lib.hid hT
  clear hT
  go_enter Tryd.func25, Tryd.ntmps25
  go_wp2
  go_loopw [4, 5] (RJoin n B A l w) (fun _ i _ => n - (intOf i).toNat)
  case atStart => exact ⟨0, ⟨#[]⟩, Nat.zero_le _, rfl, rfl, rfl, by simp [ByteArray.size], Below.refl _ _, by simp⟩
  case round =>
    obtain ⟨k, O, hk, rfl, rfl, hO, hOs, hbr, hall⟩ := hrel
    have hsz := hbr.size
    by_cases hlt : k < n
    · have hr1 := hr.below (hbr.mono hB)
      obtain ⟨b, o, u, rfl, hbb, hx, c0, c1, c2, c3⟩ := hr1.tk_at hlt
      have hmem : u ∈ l := List.mem_of_getElem? hx.out
      have htx := Lib.hid (fun v => text05t_any u v (HT.out u hmem))
      have hj0 : (0 : Int) ≤ (k : Int) := by omega
      have hj1 : (k : Int) < (n : Int) := by omega
      have hA := Lib.hid hall
      have hW := Lib.hid hbr
      clear hall hbr hr1 hmem
      rcases check_cases u with hq | hq
      · rw [hq, if_pos rfl] at htx
        have hq1 := Lib.hid hq
        have hs4 := (check_zero hq).1
        obtain ⟨S, hS⟩ : ∃ S, Hid (writtenP u = S) := ⟨_, rfl⟩
        rw [hS.out] at htx hs4
        unfold tkV at htx
        have hall2 : ∀ t ∈ l.take (k + 1), checkP t = 0 := by
          intro t ht
          rw [take_snocT hx.out, List.mem_append] at ht
          rcases ht with ht | ht
          · exact hA.out t ht
          · rw [List.mem_singleton] at ht; subst ht; exact hq1.out
        have HA2 := Lib.hid hall2
        have hz1 : (⟨#[32]⟩ : ByteArray).size = 1 := by decide
        clear hq hall2
        by_cases h0 : k = 0
        · subst h0
          simp only [Nat.zero_mul, Nat.add_zero] at c0 c1 c2 c3
          have t0 : decide ((0 : Int) < ((0 : Nat) : Int)) = false := by simp
          have hOn : O.data.toList = [] := hO.out
          have hJ : Hid ((O ++ S).data.toList = joinB (l.take (0 + 1))) := by
            show _ = _
            rw [app_data, hOn, take_snocT hx.out, ← hS.out]
            show [] ++ _ = joinB [u]
            rw [joinB_one]; rfl
          have hsz2 : (O ++ S).size ≤ 401 * (0 + 1) := by rw [ByteArray.size_append]; omega
          have hsz3 : O.size + S.size ≤ 1000000 := by omega
          clear hOn
          go_wp2_with (go_at_call 27; refine (htx.out _).mono ?_; rintro e w2 ⟨rfl, hb2⟩)
          go_roundw
          case rel => exact ⟨0 + 1, O ++ S, by omega, by go_num, rfl, hJ, hsz2, hW.out.trans (hb2.mono (by omega)), HA2.out⟩
          case measure => simp [intOf]; omega
        · have t0 : decide ((0 : Int) < (k : Int)) = true := by simp; omega
          have hJ : Hid ((O ++ (⟨#[32]⟩ : ByteArray) ++ S).data.toList = joinB (l.take (k + 1))) := by
            show _ = _
            rw [app_data, app_data, hO.out, take_snocT hx.out, ← hS.out, joinB_snoc _ _ (by intro e; have h1 := congrArg List.length e; rw [List.length_take, hlen.out] at h1; simp only [List.length_nil] at h1; omega)]
            simp
          have hsz2 : (O ++ (⟨#[32]⟩ : ByteArray) ++ S).size ≤ 401 * (k + 1) := by rw [ByteArray.size_append, ByteArray.size_append, hz1]; omega
          have hsz3 : O.size + 1 ≤ 100000000 := by omega
          have hsz4 : (O ++ (⟨#[32]⟩ : ByteArray)).size ≤ 100000000 := by rw [ByteArray.size_append, hz1]; omega
          go_wp2_with (go_at_call 27; refine (htx.out _).mono ?_; rintro e w2 ⟨rfl, hb2⟩)
          go_roundw
          case rel => exact ⟨k + 1, O ++ (⟨#[32]⟩ : ByteArray) ++ S, by omega, by go_num, rfl, hJ, hsz2, hW.out.trans (hb2.mono (by omega)), HA2.out⟩
          case measure => simp [intOf]; omega
      · have hP : Hid (joinP l = (⟨#[]⟩, 50)) := by
          show _ = _
          unfold joinP
          rw [if_neg]
          intro hh
          have := (List.all_eq_true.1 hh) u (List.mem_of_getElem? hx.out)
          rw [hq] at this; cases this
        rw [hq, if_neg (by decide)] at htx
        unfold tkV at htx
        clear hq
        go_wp2_with (go_at_call 27; refine (htx.out _).mono ?_; rintro e w2 ⟨rfl, hb2⟩)
        go_ret2
        rw [hP.out]
        exact ⟨rfl, hW.out.trans (hb2.mono (by omega))⟩
    · obtain rfl : k = n := by omega
      have e : l.take k = l := List.take_of_length_le (by rw [hlen.out]; omega)
      have hO2 := hO.out
      rw [e] at hO2 hall
      have hOz : O.size = (joinB l).length := by rw [← hO2]; exact (bl_len O).symm
      have hOb : (⟨(joinB l).toArray⟩ : ByteArray) = O := by rw [← hO2]
      have hP : O.size ≤ 400 → Hid (joinP l = (O, 0)) := by
        intro hh; show _ = _
        unfold joinP
        rw [if_pos (List.all_eq_true.2 (fun t ht => by rw [hall t ht]; rfl)), if_pos (by omega), hOb]
      have hP3 : ¬ O.size ≤ 400 → Hid (joinP l = (⟨#[]⟩, 3)) := by
        intro hh; show _ = _
        unfold joinP
        rw [if_pos (List.all_eq_true.2 (fun t ht => by rw [hall t ht]; rfl)), if_neg (by omega)]
      have hW := Lib.hid hbr
      clear hall hbr hO2 hOz hOb e
      by_cases h4 : O.size ≤ 400
      · have t4 : decide ((400 : Int) < (O.size : Int)) = false := by simp; omega
        have hp := hP h4
        clear hP hP3
        go_wp2
        go_ret2
        rw [hp.out]
        exact ⟨rfl, hW.out⟩
      · have t4 : decide ((400 : Int) < (O.size : Int)) = true := by simp; omega
        have hp := hP3 h4
        clear hP hP3
        go_wp2
        go_ret2
        rw [hp.out]
        exact ⟨rfl, hW.out⟩
end Go.Proofs.YtenonfoocjcdmaaDoor

namespace Go.Proofs.YtenonfoocjcdmaaDoor
set_option linter.unusedVariables false
open Go.RowKit Go.ChangeShapes Go.WideShapes Go.Deep
set_option maxRecDepth 100000 in
theorem pow_of {W : World} {l : List (String × DataW Unit)} (h : laidMetH Tryd.prog l W) (hl : (l.filter fun x => x.1 == "internal/strconv.uint64pow10") = [("internal/strconv.uint64pow10", Rows.laid_internal_strconv_uint64pow10)]) :
    Lib.TabIs Tryd.prog W "internal/strconv.uint64pow10" .u64 Lib.pow10Tab := by
  have h2 := h.filter (fun x => x.1 == "internal/strconv.uint64pow10")
  rw [hl, MakeChecks.laidMetH_plain _ _ _ (by kernel_rfl)] at h2
  exact Lib.tabIs_of_head (g := 2) (t := 144) (e := 130) (n := 20) (rest := []) (by kernel_rfl) (by kernel_rfl) Tryd.underlying144 Tryd.underlying130 (by kernel_rfl) (by kernel_rfl) h2
/-- a token of numbers of the machine -/
def TkWf (t : Tk) : Prop := t.text.size ≤ maxLen ∧ -9223372036854775808 ≤ t.num ∧ t.num ≤ 9223372036854775807
section
variable {H : Type} {enc0 : TypeId × Value → H} {w : World} {base : Nat} {held : Bool}
set_option maxRecDepth 100000 in
theorem open_tk {fuel : Nat} {cs : List Value} {x : DataW H × List MemPlace} (h : DataW.trod enc0 Tryd.prog w base (fun _ => true) held fuel 42 cs = some x) : ∃ t : Tk, cs = tkC t ∧ TkWf t := by
  obtain ⟨xs, n, _, _, hlen, hxl, hf⟩ := DataW.trod_struct Tryd.underlying42 h
  have hl : cs.length = 4 := hlen.trans (by kernel_rfl)
  match cs, hl, xs, hxl with
  | [c0, c1, c2, c3], _, [y0, y1, y2, y3], _ =>
    obtain ⟨n0, e0, _⟩ := DataW.trod_int Tryd.underlying3 (hf 0 _ rfl)
    obtain ⟨s1, e1, _, m1⟩ := DataW.trod_string Tryd.underlying9 (hf 1 _ rfl)
    obtain ⟨n2, e2, _, m2⟩ := DataW.trod_int Tryd.underlying3 (hf 2 _ rfl)
    obtain ⟨n3, e3, _⟩ := DataW.trod_int Tryd.underlying3 (hf 3 _ rfl)
    have k1 : Tryd.prog.cellsOf 9 = 1 := by kernel_rfl
    have k2 : Tryd.prog.cellsOf 3 = 1 := by kernel_rfl
    simp [k1, k2] at e0 e1 e2 e3
    subst e0; subst e1; subst e2; subst e3
    exact ⟨⟨n0, s1, n2, n3⟩, rfl, m1, (Go.bounds_i64 m2).1, (Go.bounds_i64 m2).2⟩
set_option maxRecDepth 100000 in
theorem open_tks {b0 : Nat} {r : Reach} {v : Value} {d : DataW H} {p : List MemPlace} (hv : Value.okWide Tryd.prog w r b0 34 v) (h : DataW.Trod enc0 Tryd.prog w base (fun _ => true) held 34 v d p) :
    ∃ (A : Option Addr) (n c : Nat) (l : List Tk), v = .slice A n c ∧ Reads w w.heap.size 4 A n (recs tkC l) ∧ n ≤ c ∧ n ≤ maxLen ∧ ∀ t ∈ l, TkWf t := by
  obtain ⟨fuel, hf⟩ := h
  obtain ⟨A0, n0, c0, rfl⟩ := okWide_slice Tryd.underlying34 hv
  obtain ⟨A, n, c, l, e, h1, h2, h3, h4⟩ := open_list (m := 4) Tryd.underlying34 (by kernel_rfl) (by omega) tkC_len (fun _ _ _ h => open_tk h) hf
  simp [Value.cells] at e
  obtain ⟨rfl, rfl, rfl⟩ := e
  exact ⟨_, _, _, l, rfl, h1, h2, h3, h4⟩
set_option maxRecDepth 100000 in
theorem open_tk1 {b0 : Nat} {r : Reach} {v : Value} {d : DataW H} {p : List MemPlace} (hv : Value.okWide Tryd.prog w r b0 42 v) (h : DataW.Trod enc0 Tryd.prog w base (fun _ => true) held 42 v d p) :
    ∃ t : Tk, v = tkV t ∧ TkWf t := by
  obtain ⟨cs, rfl, hsz⟩ := okWide_struct Tryd.underlying42 hv
  obtain ⟨fuel, hf⟩ := h
  obtain ⟨t, e, ht⟩ := open_tk hf
  refine ⟨t, ?_, ht⟩
  have e2 : cs.toList = tkC t := by simpa [Value.cells] using e
  obtain ⟨l⟩ := cs
  simp at e2
  subst e2
  rfl
end
end Go.Proofs.YtenonfoocjcdmaaDoor
