/- Bundle P4. -/
import Derived.Test.YtjmhaoplablmnaaGreatDoorP3s
import Derived.Test.YtjmhaoplablmnaaGreatDoorJbBs
import Derived.Test.YtjmhaoplablmnaaGreatDoorQ1s
namespace Go.Proofs.YtjmhaoplablmnaaGreatDoor
set_option linter.unusedSimpArgs false
set_option maxRecDepth 100000
set_option linter.unusedVariables false
set_option linter.unusedSimpArgs false
open Go.RowKit
theorem many_any (s : ByteArray) (w : World) : Calls Tryz.prog 118 #[.string s] w fun e w' => e = .returned (.int .i64 (manyP s.toList)) ∧ w = w' := by
  have HM : Hid (manyP s.toList = if s.toList == bAny || (s.toList == bGood || s.toList == bBad) then 4 else if s.toList == bAlt then 6 else 1) := rfl
  cases u1 : s.toList == bAny
  case true =>
    have t1 : (s.toList == [97, 110, 121]) = true := u1
    rw [HM.out, u1]
    clear u1 HM
    go_enter Tryz.func118, Tryz.ntmps118
    go_wp2
    go_ret
    exact ⟨rfl, rfl⟩
  have t1 : (s.toList == [97, 110, 121]) = false := u1
  cases u2 : s.toList == bGood
  case true =>
    have t2 : (s.toList == [103, 111, 111, 100]) = true := u2
    rw [HM.out, u1, u2]
    clear u1 u2 HM
    go_enter Tryz.func118, Tryz.ntmps118
    go_wp2
    go_ret
    exact ⟨rfl, rfl⟩
  have t2 : (s.toList == [103, 111, 111, 100]) = false := u2
  cases u3 : s.toList == bBad
  case true =>
    have t3 : (s.toList == [98, 97, 100]) = true := u3
    rw [HM.out, u1, u2, u3]
    clear u1 u2 u3 HM
    go_enter Tryz.func118, Tryz.ntmps118
    go_wp2
    go_ret
    exact ⟨rfl, rfl⟩
  have t3 : (s.toList == [98, 97, 100]) = false := u3
  cases u4 : s.toList == bAlt
  case true =>
    have t4 : (s.toList == [97, 108, 116]) = true := u4
    rw [HM.out, u1, u2, u3, u4]
    clear u1 u2 u3 u4 HM
    go_enter Tryz.func118, Tryz.ntmps118
    go_wp2
    go_ret
    exact ⟨rfl, rfl⟩
  have t4 : (s.toList == [97, 108, 116]) = false := u4
  rw [HM.out, u1, u2, u3, u4]
  clear u1 u2 u3 u4 HM
  go_enter Tryz.func118, Tryz.ntmps118
  go_wp2
  go_ret
  exact ⟨rfl, rfl⟩
theorem waits_any (s : ByteArray) (w : World) : Calls Tryz.prog 84 #[.string s] w fun e w' => e = .returned (.bool (waitsP s.toList)) ∧ w = w' := by
  have hm := Lib.hid (fun v => many_any s v)
  have HW : Hid (waitsP s.toList = (manyP s.toList == 4)) := rfl
  obtain ⟨m, hm2⟩ : ∃ m, manyP s.toList = m := ⟨_, rfl⟩
  rw [hm2] at hm HW
  rw [HW.out]
  clear hm2 HW
  go_enter Tryz.func84, Tryz.ntmps84
  go_wp2_with (fail)
  refine (hm.out _).mono ?_; rintro e w1 ⟨rfl, rfl⟩
  go_wp2
  go_ret
  exact ⟨rfl, rfl⟩
theorem reads_made (w : World) (l : List ByteArray) (t : TypeId) : Reads (w.alloc (.cells (strs l).toArray t)) (w.alloc (.cells (strs l).toArray t)).heap.size 1 (some ⟨w.heap.size, 0, none⟩) l.length (strs l) := by
  have := Reads.made w (strs l) t
  have e : (strs l).length = l.length := by simp [strs]
  rw [e] at this
  rw [World.size_alloc]
  exact this
def RetStrs (w : World) (l : List ByteArray) (e : Ending) (w' : World) : Prop := ∃ A c, e = .returned (.slice A l.length c) ∧ Reads w' w'.heap.size 1 A l.length (strs l) ∧ Below w.heap.size w w'
theorem fields_any (k : Int) (w : World) : Calls Tryz.prog 117 #[.int .i64 k] w (RetStrs w (fieldsP k)) := by
  have mk := fun l => Lib.hid (⟨_, _, rfl, reads_made w l 9, (Below.refl _ _).alloc (Nat.le_refl _) _⟩ : RetStrs w l (.returned (.slice (some ⟨w.heap.size, 0, none⟩) l.length l.length)) (w.alloc (.cells (strs l).toArray 9)))
  by_cases h1 : k = 1
  · subst h1
    have h := mk (fieldsP 1)
    clear mk
    go_enter Tryz.func117, Tryz.ntmps117
    go_wp2
    go_ret
    exact h.out
  have t1 : (k == 1) = false := by simpa using h1
  by_cases h5 : k = 5
  · subst h5
    have h := mk (fieldsP 5)
    clear mk
    go_enter Tryz.func117, Tryz.ntmps117
    go_wp2
    go_ret
    exact h.out
  have t5 : (k == 5) = false := by simpa using h5
  by_cases h6 : k = 6
  · subst h6
    have h := mk (fieldsP 6)
    clear mk
    go_enter Tryz.func117, Tryz.ntmps117
    go_wp2
    go_ret
    exact h.out
  have t6 : (k == 6) = false := by simpa using h6
  by_cases h10 : k = 10
  · subst h10
    have h := mk (fieldsP 10)
    clear mk
    go_enter Tryz.func117, Tryz.ntmps117
    go_wp2
    go_ret
    exact h.out
  have t10 : (k == 10) = false := by simpa using h10
  have e : fieldsP k = [] := by unfold fieldsP fieldsN; rw [if_neg h1, if_neg h5, if_neg h6, if_neg h10]; rfl
  rw [e]
  clear mk e h1 h5 h6 h10
  go_enter Tryz.func117, Tryz.ntmps117
  go_wp2
  go_ret
  exact ⟨_, _, rfl, Reads.none_, Below.refl _ _⟩
theorem idxS_any (l : List ByteArray) (s : ByteArray) : decide (0 ≤ idxS l s) = l.any (fun x => s.toList == x.toList) := by
  unfold idxS
  cases h : l.findIdx? (fun x => s.toList == x.toList) with
  | none =>
    rw [List.findIdx?_eq_none_iff] at h
    have : l.any (fun x => s.toList == x.toList) = false := by rw [List.any_eq_false]; intro x hx; rw [h x hx]; decide
    rw [this]; rfl
  | some i =>
    rw [List.findIdx?_eq_some_iff_getElem] at h
    obtain ⟨h1, h2, _⟩ := h
    have : l.any (fun x => s.toList == x.toList) = true := List.any_eq_true.2 ⟨_, List.getElem_mem h1, h2⟩
    rw [this]; simp
theorem contains_s (A : Option Addr) (n c B : Nat) (l : List ByteArray) (x : ByteArray) (w : World) (hr : Reads w B 1 A n (strs l)) (hn : n ≤ 1000000) :
    Calls Tryz.prog 116 #[.slice A n c, .string x] w fun e w' => e = .returned (.bool (l.any (fun y => x.toList == y.toList))) ∧ w = w' := by
  have hi := Lib.hid (index_s A n c B l x w hr hn)
  have HA := Lib.hid (idxS_any l x)
  obtain ⟨i, hi2⟩ : ∃ i, idxS l x = i := ⟨_, rfl⟩
  rw [hi2] at hi HA
  rw [← HA.out]
  clear hr hi2 HA
  go_enter Tryz.func116, Tryz.ntmps116
  go_wp2_with (fail)
  refine hi.out.mono ?_; rintro e w1 ⟨rfl, rfl⟩
  go_wp2
  go_ret
  exact ⟨rfl, rfl⟩
def fdC (f : Fd) : List Value := [.string f.1, vlV f.2]
theorem fdC_len (f : Fd) : (fdC f).length = 2 := rfl
theorem vlV_one (v : Vl) : (vlV v).oneCell' = true := by cases v <;> rfl
theorem fdC_one (f : Fd) : ∀ v ∈ fdC f, v.oneCell' = true := by
  intro v hv
  simp only [fdC, List.mem_cons, List.not_mem_nil, or_false] at hv
  rcases hv with rfl | rfl
  · rfl
  · exact vlV_one _
theorem vlV_form (v : Vl) : vlV v = .nilIface ∨ ∃ t u, vlV v = .iface t u := by cases v <;> simp [vlV]
theorem Reads.fd_at {w : World} {B n k : Nat} {A : Option Addr} {l : List Fd} (h : Reads w B 2 A n (recs fdC l)) (hk : k < n) :
    ∃ b o u, A = some ⟨b, o, none⟩ ∧ b < B ∧ Hid (l[k]? = some u) ∧ w.cell? ⟨b, o + k * 2, none⟩ = some (.string u.1) ∧ w.cell? ⟨b, o + k * 2 + 1, none⟩ = some (vlV u.2) := by
  obtain ⟨b, o, u, e, hb, hx, hc⟩ := h.rec_at fdC_len (by omega) hk
  exact ⟨b, o, u, e, hb, hx, hc 0 _ rfl, hc 1 _ rfl⟩
theorem fieldsP_len (k : Int) : (fieldsP k).length ≤ 10 := by
  unfold fieldsP fieldsN
  repeat' split
  all_goals simp
theorem count_step {had : List Fd} {j : Nat} {u : Fd} {p : Fd → Bool} (h : had[j]? = some u) : (((had.take (j + 1)).countP p : Nat) : Int) = ((had.take j).countP p : Nat) + (if p u = true then 1 else 0) := by
  rw [take_snocT h, List.countP_append, List.countP_singleton]
  split <;> simp
set_option maxHeartbeats 1000000 in
theorem open_any (k : Int) (A : Option Addr) (n c B : Nat) (had : List Fd) (f : ByteArray) (w : World) (hr : Reads w B 2 A n (recs fdC had)) (hB : B ≤ w.heap.size) (hn : n ≤ 1000000) :
    Calls Tryz.prog 80 #[.int .i64 k, .slice A n c, .string f] w fun e w' => e = .returned (.bool (openP k had f)) ∧ Below w.heap.size w w' := by
  have hlen := hr.rec_len fdC_len (by omega)
  have hw := Lib.hid (fun (s : ByteArray) v => waits_any s v)
  have hm := Lib.hid (fun v => many_any f v)
  have hf := Lib.hid (fun v => fields_any k v)
  have hct := Lib.hid (fun A c B v (hv : Reads v B 1 A (fieldsP k).length (strs (fieldsP k))) => contains_s A (fieldsP k).length c B (fieldsP k) f v hv (by have := fieldsP_len k; omega))
  have HO : Hid (openP k had f = ((fieldsP k).any (fun x => f.toList == x.toList) && decide (((had.countP (likeP f.toList) : Nat) : Int) < manyP f.toList))) := rfl
  have hcl : ∀ j, (had.take j).countP (likeP f.toList) ≤ 1000000 := fun j => Nat.le_trans List.countP_le_length (by simp; have := hlen.out; omega)
  have HCL := Lib.hid hcl
  obtain ⟨q2, hq2⟩ : ∃ q, Hid (waitsP f.toList = q) := ⟨_, rfl⟩
  have HLK : Hid (∀ u : Fd, likeP f.toList u = ((u.1.toList == f.toList) || (q2 && waitsP u.1.toList))) := fun u => by unfold likeP; rw [hq2.out]
  have hwf := Lib.hid (fun v => waits_any f v)
  rw [hq2.out] at hwf
  obtain ⟨L, hL⟩ : ∃ L, Hid ((fieldsP k).length = L) := ⟨_, rfl⟩
  obtain ⟨q5, hq5⟩ : ∃ q, Hid ((fieldsP k).any (fun x => f.toList == x.toList) = q) := ⟨_, rfl⟩
  obtain ⟨m, hm2⟩ : ∃ m, Hid (manyP f.toList = m) := ⟨_, rfl⟩
  rw [hm2.out, hq5.out] at HO
  rw [hm2.out] at hm
  rw [hL.out, hq5.out] at hct
  rw [HO.out]
  clear hcl
  go_enter Tryz.func80, Tryz.ntmps80
  go_wp2
  go_loopw [7, 9, 12] (fun nn _ i wr => ∃ j : Nat, j ≤ n ∧ i = .int .i64 j ∧ nn = .int .i64 (((had.take j).countP (likeP f.toList) : Nat) : Int) ∧ Below w.heap.size w wr) (fun _ _ i _ => n - (intOf i).toNat)
  case atStart => exact ⟨0, Nat.zero_le _, rfl, rfl, Below.refl _ _⟩
  case round =>
    obtain ⟨j, hj, rfl, rfl, hbr⟩ := hrel
    have HBR := Lib.hid hbr
    obtain ⟨cn, hcn⟩ : ∃ cn, Hid ((had.take j).countP (likeP f.toList) = cn) := ⟨_, rfl⟩
    have hcnl := HCL.out j
    rw [hcn.out] at hcnl ⊢
    by_cases hlt : j < n
    · have hr1 := hr.below (hbr.mono hB)
      obtain ⟨b, o, u, rfl, hbb, hx, c0, c1⟩ := hr1.fd_at hlt
      have hst := count_step (p := likeP f.toList) hx.out
      rw [hcn.out, HLK.out u] at hst
      have hwu := Lib.hid (fun v => waits_any u.1 v)
      have hj0 : (0 : Int) ≤ (j : Int) := by omega
      have hj1 : (j : Int) < (n : Int) := by omega
      have t0 : decide ((j : Int) < (n : Int)) = true := by simp; omega
      have HST := Lib.hid hst
      clear hr1 hbr hst
      rcases vlV_form u.2 with hV | ⟨T0, U0, hV⟩
      all_goals
        rw [hV] at c1
        clear hV
        cases q1 : u.1.toList == f.toList
        case' true =>
          have q1' : Hid (((u.1.toList == f.toList) || (q2 && waitsP u.1.toList)) = true) := by show _ = _; rw [q1]; rfl
          rw [q1'.out] at HST
          go_wp2
          go_roundw
          case rel => exact ⟨j + 1, by omega, by simp, by rw [HST.out]; rfl, HBR.out.alloc HBR.out.size _⟩
          case measure => simp [intOf]; omega
        case false =>
          cases q2
          case false =>
            have q1' : Hid (((u.1.toList == f.toList) || (false && waitsP u.1.toList)) = false) := by show _ = _; rw [q1]; rfl
            rw [q1'.out] at HST
            go_wp2_with (go_at_call 84; refine (hwf.out _).mono ?_; rintro e w1 ⟨rfl, rfl⟩)
            go_roundw
            case rel => exact ⟨j + 1, by omega, by simp, by rw [HST.out]; simp, HBR.out.alloc HBR.out.size _⟩
            case measure => simp [intOf]; omega
          case true =>
            cases q3 : waitsP u.1.toList
            case' true =>
              have q1' : Hid (((u.1.toList == f.toList) || (true && waitsP u.1.toList)) = true) := by show _ = _; rw [q1, q3]; rfl
            case' false =>
              have q1' : Hid (((u.1.toList == f.toList) || (true && waitsP u.1.toList)) = false) := by show _ = _; rw [q1, q3]; rfl
            all_goals
              rw [q1'.out] at HST
              rw [q3] at hwu
              go_wp2_with (fail)
              refine (hwf.out _).mono ?_; rintro e w1 ⟨rfl, rfl⟩
              go_wp2_with (fail)
              refine (hwu.out _).mono ?_; rintro e w1 ⟨rfl, rfl⟩
              go_wp2
              go_roundw
              case rel => exact ⟨j + 1, by omega, by simp, by rw [HST.out]; simp, HBR.out.alloc HBR.out.size _⟩
              case measure => simp [intOf]; omega
    · have hjn : j = n := by omega
      have hcn2 : Hid (had.countP (likeP f.toList) = cn) := by
        show _ = _
        rw [← hcn.out, List.take_of_length_le (by rw [hlen.out]; omega)]
      have t0 : decide ((j : Int) < (n : Int)) = false := by simp; omega
      clear hr hbr hjn
      cases q5
      · go_wp2_with (fail)
        refine (hf.out _).mono ?_; rintro e w1 ⟨A1, c1, rfl, hr1, hb1⟩
        rw [hL.out] at hr1 ⊢
        have HR1 := Lib.hid hr1
        have HB1 := Lib.hid (bt HBR.out hb1)
        clear hr1 hb1
        go_wp2_with (fail)
        refine (hct.out _ _ _ _ HR1.out).mono ?_; rintro e w2 ⟨rfl, rfl⟩
        go_wp2
        go_ret
        exact ⟨rfl, HB1.out⟩
      · go_wp2_with (fail)
        refine (hf.out _).mono ?_; rintro e w1 ⟨A1, c1, rfl, hr1, hb1⟩
        rw [hL.out] at hr1 ⊢
        have HR1 := Lib.hid hr1
        have HB1 := Lib.hid (bt HBR.out hb1)
        clear hr1 hb1
        go_wp2_with (fail)
        refine (hct.out _ _ _ _ HR1.out).mono ?_; rintro e w2 ⟨rfl, rfl⟩
        go_wp2_with (fail)
        refine (hm.out _).mono ?_; rintro e w2 ⟨rfl, rfl⟩
        go_wp2
        go_ret
        exact ⟨by rw [hcn2.out]; rfl, HB1.out⟩
def PredF (g : FuncId) (lb : Array Value) (p : Fd → Bool) (w : World) : Prop :=
  ∀ (W : World) (x : Fd), Below w.heap.size w W → Calls Tryz.prog g (#[.agg #[.string x.1, vlV x.2]] ++ lb) W fun e w' => e = .returned (.bool (p x)) ∧ Below w.heap.size w w'
def idxF (p : Fd → Bool) (l : List Fd) : Int := match l.findIdx? p with | some i => (i : Int) | none => -1
theorem idxF_hit {p : Fd → Bool} {l : List Fd} {k : Nat} {x : Fd} (hx : l[k]? = some x) (hp : p x = true) (hn : ∀ j y, j < k → l[j]? = some y → p y = false) : idxF p l = (k : Int) := by
  have h : l.findIdx? p = some k := by
    rw [List.findIdx?_eq_some_iff_getElem]
    obtain ⟨h1, h2⟩ := List.getElem?_eq_some_iff.1 hx
    refine ⟨h1, by rw [h2]; exact hp, fun j hj => ?_⟩
    rw [hn j _ hj (List.getElem?_eq_getElem (by omega))]; decide
  unfold idxF; rw [h]
theorem idxF_miss {p : Fd → Bool} {l : List Fd} (hn : ∀ j y, j < l.length → l[j]? = some y → p y = false) : idxF p l = -1 := by
  have h : l.findIdx? p = none := by
    rw [List.findIdx?_eq_none_iff]
    intro x hx
    obtain ⟨j, hj, rfl⟩ := List.mem_iff_getElem.1 hx
    exact hn j _ hj (List.getElem?_eq_getElem hj)
  unfold idxF; rw [h]
theorem idxF_any (p : Fd → Bool) (l : List Fd) : decide (0 ≤ idxF p l) = l.any p := by
  unfold idxF
  cases h : l.findIdx? p with
  | none =>
    rw [List.findIdx?_eq_none_iff] at h
    have : l.any p = false := by rw [List.any_eq_false]; intro x hx; rw [h x hx]; decide
    rw [this]; rfl
  | some i =>
    rw [List.findIdx?_eq_some_iff_getElem] at h
    obtain ⟨h1, h2, _⟩ := h
    have : l.any p = true := List.any_eq_true.2 ⟨_, List.getElem_mem h1, h2⟩
    rw [this]; simp
set_option maxHeartbeats 1000000 in
theorem idxfd_any (p : Fd → Bool) (g : FuncId) (lb : Array Value) (eg : ∀ args w, (callFunc g args).run Tryz.prog w = .ok (.enter g args) w) (A : Option Addr) (n c B : Nat) (l : List Fd) (w : World)
    (hr : Reads w B 2 A n (recs fdC l)) (hB : B ≤ w.heap.size) (hn : n ≤ 1000000) (hp : PredF g lb p w) :
    Calls Tryz.prog 122 #[.slice A n c, .func (.func g) #[] lb] w fun e w' => e = .returned (.int .i64 (idxF p l)) ∧ Below w.heap.size w w' := by
  have hlen := hr.rec_len fdC_len (by omega)
  have HP := Lib.hid hp
  clear hp
  go_enter Tryz.func122, Tryz.ntmps122
  go_wp2
  go_loopw [5, 8] (fun _ i wr => ∃ k : Nat, k ≤ n ∧ i = .int .i64 k ∧ Below w.heap.size w wr ∧ Hid (∀ j y, j < k → l[j]? = some y → p y = false)) (fun _ i _ => n - (intOf i).toNat)
  case atStart => exact ⟨0, Nat.zero_le _, rfl, Below.refl _ _, Lib.hid (fun j y hj => by omega)⟩
  case round =>
    obtain ⟨k, hk, rfl, hbr, HN⟩ := hrel
    by_cases hlt : k < n
    · have hr1 := hr.below (hbr.mono hB)
      obtain ⟨b, o, x, rfl, hbb, hx, c0, c1⟩ := hr1.fd_at hlt
      have hcall := Lib.hid (HP.out wr x hbr)
      have hj0 : (0 : Int) ≤ (k : Int) := by omega
      have hj1 : (k : Int) < (n : Int) := by omega
      have t0 : decide ((k : Int) < (n : Int)) = true := by simp; omega
      clear hr1
      cases hq : p x with
      | true =>
        rw [hq] at hcall
        have HR : Hid (idxF p l = (k : Int)) := by show _ = _; exact idxF_hit hx.out hq HN.out
        go_wp2_with (go_at_fn g; refine hcall.out.mono ?_; rintro e w' ⟨rfl, hb'⟩)
        go_ret
        exact ⟨by rw [HR.out]; rfl, hb'⟩
      | false =>
        rw [hq] at hcall
        have HN2 : Hid (∀ j y, j < k + 1 → l[j]? = some y → p y = false) := Lib.hid (fun j y hj hy => by
          by_cases e : j = k
          · subst e; rw [hx.out] at hy; rw [← Option.some.inj hy]; exact hq
          · exact HN.out j y (by omega) hy)
        go_wp2_with (go_at_fn g; refine hcall.out.mono ?_; rintro e w' ⟨rfl, hb'⟩)
        go_roundw
        case rel => exact ⟨k + 1, by omega, by simp, hb', HN2⟩
        case measure => simp [intOf]; omega
    · obtain rfl : k = n := by omega
      have t0 : decide ((k : Int) < (k : Int)) = false := by simp
      have HR : Hid (idxF p l = -1) := by show _ = _; exact idxF_miss (fun j y hj hy => HN.out j y (by rw [← hlen.out]; exact hj) hy)
      go_wp2
      go_ret
      exact ⟨by rw [HR.out]; rfl, hbr⟩
theorem hasfd_any (p : Fd → Bool) (g : FuncId) (lb : Array Value) (eg : ∀ args w, (callFunc g args).run Tryz.prog w = .ok (.enter g args) w) (A : Option Addr) (n c B : Nat) (l : List Fd) (w : World)
    (hr : Reads w B 2 A n (recs fdC l)) (hB : B ≤ w.heap.size) (hn : n ≤ 1000000) (hp : PredF g lb p w) :
    Calls Tryz.prog 85 #[.slice A n c, .func (.func g) #[] lb] w fun e w' => e = .returned (.bool (l.any p)) ∧ Below w.heap.size w w' := by
  have hc := Lib.hid (idxfd_any p g lb eg A n c B l w hr hB hn hp)
  have HR := Lib.hid (idxF_any p l)
  obtain ⟨i, hi⟩ : ∃ i, Hid (idxF p l = i) := ⟨_, rfl⟩
  rw [hi.out] at hc HR
  clear hr hp
  go_enter Tryz.func85, Tryz.ntmps85
  go_wp2_with (fail)
  refine hc.out.mono ?_; rintro e w' ⟨rfl, hb'⟩
  go_wp2
  go_ret
  exact ⟨by rw [← HR.out]; rfl, hb'⟩
end Go.Proofs.YtjmhaoplablmnaaGreatDoor
namespace Go.Proofs.YtjmhaoplablmnaaGreatDoor
set_option linter.unusedSimpArgs false
set_option maxRecDepth 100000
set_option linter.unusedVariables false
set_option linter.unusedSimpArgs false
open Go.RowKit
theorem Owns.kb {w w' : World} {B : Nat} {e : TypeId} {size n : Nat} {v : Value} {xs : List Value} {S : Nat → Prop} (h : Owns w B e size v n xs) (hk : Kb S w w') (hS : ∀ k, S k → k < B) : Owns w' B e size v n xs :=
  h.keep fun g _ hg hl => hk.block g hl (fun x => by have := hS g x; omega)
theorem ent_f1 : Enters Tryz.prog 79 := enters_of Tryz.func79 (by kernel_rfl) rfl
theorem ent_f2 : Enters Tryz.prog 83 := enters_of Tryz.func83 (by kernel_rfl) rfl
theorem field1_any (t : Tk) (k : Int) (g1 g2 : Nat) (A : Option Addr) (n c B : Nat) (had : List Fd) (w : World) (h1 : w.cell? ⟨g1, 0, none⟩ = some (.int .i64 k)) (h2 : w.cell? ⟨g2, 0, none⟩ = some (.slice A n c))
    (hr : Reads w B 2 A n (recs fdC had)) (hB : B ≤ w.heap.size) (hn : n ≤ 1000000) :
    Calls Tryz.prog 79 #[tkV t, .pointer (some ⟨g1, 0, none⟩), .pointer (some ⟨g2, 0, none⟩)] w fun e w' => e = .returned (.bool (openP k had t.text)) ∧ Below w.heap.size w w' := by
  have l1 := cell_lt h1
  have l2 := cell_lt h2
  have ho := Lib.hid (open_any k A n c B had t.text (w.alloc (boxT t)) (hr.alloc hB _) (by simp; omega) hn)
  unfold boxT at ho
  unfold tkV
  clear hr hB
  go_enter Tryz.func79, Tryz.ntmps79
  go_wp2_with (fail)
  refine ho.out.mono ?_; rintro e w1 ⟨rfl, hb1⟩
  go_wp2
  go_ret
  exact ⟨rfl, bt ((Below.refl _ _).alloc (Nat.le_refl _) _) hb1⟩
def asC : Vl → Int × Bool | .count n => (n, true) | _ => (0, false)
theorem as_count (v : Vl) (w : World) : (Instr.typeAssert (vlV v) 71 119 true).run Tryz.prog w = .ok (.tuple #[.int .i64 (asC v).1, .bool (asC v).2]) w := by
  cases v <;> simp [vlV, asC, Instr.typeAssert, go_sem, Tryz.underlying119]
theorem twice_as (f x : Fd) : twiceP f x = (waitsP x.1.toList && (waitsP f.1.toList && ((asC x.2).2 && ((asC f.2).2 && ((asC x.2).1 == (asC f.2).1))))) := by
  obtain ⟨xn, xv⟩ := x
  obtain ⟨fn, fv⟩ := f
  unfold twiceP
  cases xv <;> cases fv <;> simp [asC]
theorem field2_any (f x : Fd) (g : Nat) (w : World) (h0 : w.cell? ⟨g, 0, none⟩ = some (.string f.1)) (h1 : w.cell? ⟨g, 1, none⟩ = some (vlV f.2)) :
    Calls Tryz.prog 83 #[.agg #[.string x.1, vlV x.2], .pointer (some ⟨g, 0, none⟩)] w fun e w' => e = .returned (.bool (twiceP f x)) ∧ Below w.heap.size w w' := by
  have l0 := cell_lt h0
  have hx := as_count x.2
  have hf := as_count f.2
  have wx := Lib.hid (fun v => waits_any x.1 v)
  have wf := Lib.hid (fun v => waits_any f.1 v)
  have HT := Lib.hid (twice_as f x)
  obtain ⟨a, ha⟩ : ∃ a, (asC x.2).1 = a := ⟨_, rfl⟩
  obtain ⟨p, hp⟩ : ∃ a, (asC x.2).2 = a := ⟨_, rfl⟩
  obtain ⟨b, hb⟩ : ∃ a, (asC f.2).1 = a := ⟨_, rfl⟩
  obtain ⟨q, hq⟩ : ∃ a, (asC f.2).2 = a := ⟨_, rfl⟩
  obtain ⟨y, hy⟩ : ∃ a, waitsP x.1.toList = a := ⟨_, rfl⟩
  obtain ⟨z, hz⟩ : ∃ a, waitsP f.1.toList = a := ⟨_, rfl⟩
  rw [ha, hp] at hx
  rw [hb, hq] at hf
  rw [hy] at wx
  rw [hz] at wf
  rw [ha, hp, hb, hq, hy, hz] at HT
  rw [HT.out]
  obtain ⟨V, hV⟩ : ∃ V, vlV f.2 = V := ⟨_, rfl⟩
  rw [hV] at h1 hf
  have HBx := fun (o : Obj) => (Below.refl w.heap.size w).alloc (Nat.le_refl _) o
  have HB := Lib.hid HBx
  clear ha hp hb hq hy hz HT hV HBx
  rcases vlV_form x.2 with hU | ⟨T0, U0, hU⟩
  all_goals
    rw [hU] at hx ⊢
    clear hU
    cases y
    case' false => skip
    case' true =>
      cases z
      case' false => skip
      case' true =>
        cases p
        case' false => skip
        case' true => cases q
    all_goals
      go_enter Tryz.func83, Tryz.ntmps83
      go_wp2_with (go_at_call 84; first | (with_reducible refine (wx.out _).mono ?_) | (with_reducible refine (wf.out _).mono ?_); rintro e w1 ⟨rfl, rfl⟩)
      go_ret
      exact ⟨rfl, HB.out _⟩
end Go.Proofs.YtjmhaoplablmnaaGreatDoor
namespace Go.Proofs.YtjmhaoplablmnaaGreatDoor
set_option linter.unusedSimpArgs false
set_option maxRecDepth 100000
set_option linter.unusedVariables false
set_option linter.unusedSimpArgs false
open Go.RowKit
def RetFd8 (R B n c : Nat) (A : Option Addr) (ts : List Tk) (en : Int) (w : World) (x : Fd × Rr) (e : Ending) (w' : World) : Prop := e = .returned (.agg #[.string x.1.1, vlV x.1.2]) ∧ Cd w' R B A n c ts en x.2 ∧ Kb (· = R) w w'
theorem set2_blk {v : World} {b : Nat} {x0 x1 a0 a1 : Value} {t : TypeId} (h : v.heap[b]? = some (.cells #[x0, x1] t (0, 0))) : ((v.setCell ⟨b, 0, none⟩ a0).setCell ⟨b, 1, none⟩ a1).heap[b]? = some (.cells #[a0, a1] t (0, 0)) := by simp [World.setCell, Array.getElem?_modify, h]
theorem row2 {v : World} {b : Nat} {a0 a1 : Value} {t : TypeId} (h : v.heap[b]? = some (.cells #[a0, a1] t (0, 0))) : (∀ j, v.frozen? ⟨b, j, none⟩ = false) ∧ v.cell? ⟨b, 0, none⟩ = some a0 ∧ v.cell? ⟨b, 1, none⟩ = some a1 := by
  refine ⟨fun j => by simp [World.frozen?, h], ?_, ?_⟩ <;> simp [World.cell?, h]
theorem Kb.set2 {S : Nat → Prop} {w v : World} {T : Nat} (h : Kb S w v) (hT : w.heap.size ≤ T) (a0 a1 : Value) : Kb S w ((v.setCell ⟨T, 0, none⟩ a0).setCell ⟨T, 1, none⟩ a1) :=
  Kb.fresh (((h.mono (fun _ x => Or.inl x)).set_ (p := ⟨T, 0, none⟩) (Or.inr hT) a0).set_ (p := ⟨T, 1, none⟩) (Or.inr hT) a1)
theorem Cd.set2 {v : World} {R B n c T : Nat} {A : Option Addr} {ts : List Tk} {en : Int} {r : Rr} (h : Cd v R B A n c ts en r) (hT : R < T) (a0 a1 : Value) : Cd ((v.setCell ⟨T, 0, none⟩ a0).setCell ⟨T, 1, none⟩ a1) R B A n c ts en r :=
  h.kb (S := (· = T)) (((Kb.refl (· = T) v).set_ (p := ⟨T, 0, none⟩) rfl a0).set_ (p := ⟨T, 1, none⟩) rfl a1) (by omega) (fun k hk => by have := h.hB; omega)
theorem takeP_none {ts : List Tk} {en : Int} {k : Int} {p : Tk → Bool} {r : Rr} (h : mayP ts k p r = none) : takeP ts en k p r = (tk0, false, failP ts en r) := by unfold takeP; rw [h]
theorem takeP_some {ts : List Tk} {en : Int} {k : Int} {p : Tk → Bool} {r : Rr} {t : Tk} (h : mayP ts k p r = some t) : takeP ts en k p r = (t, true, ⟨r.at_ + 1, r.bad⟩) := by unfold takeP; rw [h]
theorem valueP_iface (ts : List Tk) (en : Int) (f : List UInt8) (r : Rr) : ∃ T U, vlV (valueP ts en f r).1 = .iface T U := by
  unfold valueP
  repeat' split
  all_goals exact ⟨_, _, rfl⟩
set_option maxHeartbeats 2000000 in
theorem cfield_any (R B n c : Nat) (A : Option Addr) (ts : List Tk) (en : Int) (r : Rr) (k : Int) (A2 : Option Addr) (n2 c2 B2 : Nat) (had : List Fd) (w : World) (h : Cd w R B A n c ts en r)
    (ho : Owns w B2 73 2 (.slice A2 n2 c2) n2 (recs fdC had)) (hRB : R < B2) (hn2 : n2 ≤ 100000) :
    Calls Tryz.prog 44 #[.pointer (some ⟨R, 0, none⟩), .int .i64 k, .slice A2 n2 c2] w (RetFd8 R B n c A ts en w (fieldP ts en k had r)) := by
  obtain ⟨W, hW⟩ : ∃ W, Hid (((w.alloc (.cells #[.int .i64 k] 3)).alloc (.cells #[.slice A2 n2 c2] 69)).alloc (.cells #[.string ⟨#[]⟩, .nilIface] 73) = W) := ⟨_, rfl⟩
  obtain ⟨b0, b1, b2⟩ := three_block w (.cells #[.int .i64 k] 3) (.cells #[.slice A2 n2 c2] 69) (.cells #[.string ⟨#[]⟩, .nilIface] 73)
  have hWB := three_below w (.cells #[.int .i64 k] 3) (.cells #[.slice A2 n2 c2] 69) (.cells #[.string ⟨#[]⟩, .nilIface] 73)
  rw [hW.out] at b0 b1 b2 hWB
  have hWs : W.heap.size = w.heap.size + 3 := by rw [← hW.out]; simp
  have q0 : W.cell? ⟨w.heap.size, 0, none⟩ = some (.int .i64 k) := (cell_of_row W _ 0 _ _ _ b0).trans rfl
  have q1 : W.cell? ⟨w.heap.size + 1, 0, none⟩ = some (.slice A2 n2 c2) := (cell_of_row W _ 0 _ _ _ b1).trans rfl
  have hoW := ho.below hWB
  have hlt := h.lt
  have hc := Lib.hid (ctake_any R B n c A ts en r 1 79 #[.pointer (some ⟨w.heap.size, 0, none⟩), .pointer (some ⟨w.heap.size + 1, 0, none⟩)] ent_f1 (fun t => openP k had t.text) (fun _ => False) (fun _ => True) W id (fun _ x => x.elim) (fun _ x => x.elim) (fun _ _ _ _ => trivial)
    (fun t v _ _ _ hv => (field1_any t k _ _ A2 n2 c2 v.heap.size had v ((hv.cell (p := ⟨w.heap.size, 0, none⟩) (cell_lt q0)).trans q0) ((hv.cell (p := ⟨w.heap.size + 1, 0, none⟩) (cell_lt q1)).trans q1) (hoW.below hv).reads (Nat.le_refl _) (by omega)).mono (fun e w' ⟨h1, h2⟩ => ⟨h1, Kb.of_below h2, trivial⟩)) (h.below hWB))
  have HB := Lib.hid hWB
  have HG := Lib.hid b2
  have HO := Lib.hid hoW
  have H1 := Lib.hid q1
  cases hm : mayP ts 1 (fun t => openP k had t.text) r with
  | none =>
    have HV : Hid (fieldP ts en k had r = ((⟨#[]⟩, .none), failP ts en r)) := by show _ = _; unfold fieldP; rw [hm]
    rw [takeP_none hm] at hc
    rw [HV.out]
    unfold tkV at hc
    clear h ho b0 b1 b2 hWB q0 q1 hoW hm HV
    go_enter Tryz.func44, Tryz.ntmps44
    go_wp2_with (fail)
    rw [hW.out]
    refine hc.out.mono ?_; rintro e w5 ⟨rfl, h5, k5, -⟩
    have k5' : Kb (· = R) W w5 := k5.mono (fun _ x => x.elim id (fun y => y.elim))
    have g5 := (k5'.block (w.heap.size + 1 + 1) (by omega) (by show ¬ _ = R; omega)).trans HG.out
    have g6 : (w5.alloc (boxT tk0)).heap[w.heap.size + 1 + 1]? = _ := (Below.heap_alloc _ _ _ (lt_of_block g5)).trans g5
    unfold boxT at g6
    obtain ⟨fz, y0, y1⟩ := row2 g6
    have hl6 := lt_of_block g6
    have G6 := Lib.hid g6
    have H5 := Lib.hid h5
    have K5 := Lib.hid k5'
    clear h5 k5 k5' g5 g6
    go_wp2
    refine bodyPost_ret (results_cell_row rfl _ _ (w.heap.size + 1 + 1) _ _ _ _ rfl (set2_blk G6.out) Tryz.underlying73 rfl (by kernel_rfl)) rfl ?_
    exact ⟨rfl, (H5.out.alloc _).set2 (by omega) _ _, Kb.set2 (((Kb.of_below HB.out).trans K5.out).alloc _) (by omega) _ _⟩
  | some t =>
    obtain ⟨q, hq⟩ : ∃ q, Hid (signP ts en [61] ⟨r.at_ + 1, r.bad⟩ = q) := ⟨_, rfl⟩
    obtain ⟨x, hx⟩ : ∃ x, Hid (valueP ts en t.text.toList q = x) := ⟨_, rfl⟩
    have HV : Hid (fieldP ts en k had r = if x.2.bad < 0 ∧ had.any (twiceP (t.text, x.1)) = true then ((t.text, x.1), failP ts en ⟨q.at_, x.2.bad⟩) else ((t.text, x.1), x.2)) := by
      show _ = _; unfold fieldP; rw [hm]; dsimp only; rw [hq.out, hx.out]
    rw [takeP_some hm] at hc
    obtain ⟨X, hX⟩ : ∃ X, fieldP ts en k had r = X := ⟨_, rfl⟩
    rw [hX] at HV ⊢
    unfold tkV at hc
    have hvi := valueP_iface ts en t.text.toList q
    rw [hx.out] at hvi
    obtain ⟨T0, U0, hvi⟩ := hvi
    obtain ⟨v0, r3⟩ := x
    dsimp only at hvi
    clear h ho b0 b1 b2 hWB q0 q1 hoW hm hX
    go_enter Tryz.func44, Tryz.ntmps44
    go_wp2_with (fail)
    rw [hW.out]
    refine hc.out.mono ?_; rintro e w5 ⟨rfl, h5, k5, -⟩
    have k5' : Kb (· = R) W w5 := k5.mono (fun _ x => x.elim id (fun y => y.elim))
    have h6 := h5.alloc (boxT t)
    have k6 := ((Kb.of_below HB.out).trans k5').alloc (boxT t)
    have k6W := k5'.alloc (boxT t)
    have hT6 := heap_alloc_new w5 (boxT t)
    unfold boxT at h6 k6 hT6 k6W
    obtain ⟨W6, hW6⟩ : ∃ W6, Hid (w5.alloc (.cells #[.int .i64 t.kind, .string t.text, .int .i64 t.num, .int .i64 t.at_] 96) = W6) := ⟨_, rfl⟩
    rw [hW6.out] at h6 k6 hT6 k6W
    have hTg : w.heap.size + 3 ≤ w5.heap.size := by have := k5'.size; omega
    have hsg := Lib.hid (csign_any R B n c A ts en _ ⟨#[61]⟩ W6 h6)
    rw [show (⟨#[61]⟩ : ByteArray).toList = [61] from mkT _] at hsg
    rw [hq.out] at hsg
    have HT6 := Lib.hid hT6
    have K6 := Lib.hid k6
    have K6W := Lib.hid k6W
    clear h5 k5 k5' h6 k6 hT6 k6W hc
    go_wp2_with (fail)
    rw [hW6.out]
    refine hsg.out.mono ?_; rintro e w7 ⟨rfl, h7, k7⟩
    have t7 := (k7.block w5.heap.size (lt_of_block HT6.out) (by show ¬ _ = R; omega)).trans HT6.out
    have d1 := h7.c1
    have K7 := Lib.hid (K6.out.trans k7)
    have K7W := Lib.hid (K6W.out.trans k7)
    have H7 := Lib.hid h7
    have T7 := Lib.hid t7
    obtain ⟨f7, z0, z1, z2, z3⟩ := row4 t7
    have hT7 := lt_of_block t7
    have hv : ∀ v, Below w7.heap.size w7 v → Calls Tryz.prog 82 #[.pointer (some ⟨R, 0, none⟩), .string t.text] v fun e w8 => e = .returned (vlV v0) ∧ Cd w8 R B A n c ts en r3 ∧ Kb (· = R) w7 w8 ∧ w8.cell? ⟨w5.heap.size, 1, none⟩ = some (.string t.text) ∧ (∀ b, w7.heap.size ≤ b → b < v.heap.size → w8.heap[b]? = v.heap[b]?) ∧ w5.heap.size < w8.heap.size := by
      intro v hb
      have := cvalue_any R B n c A ts en q t.text v (h7.below hb)
      rw [hx.out] at this
      refine this.mono ?_
      rintro e w8 ⟨he, h8, k8⟩
      refine ⟨he, h8, (Kb.of_below hb).trans k8, ?_, fun b h1 h2 => k8.block b h2 (by show ¬ b = R; have := h7.lt; omega), by have := k8.size; have := hb.size; omega⟩
      exact (k8.cell (p := ⟨w5.heap.size, 1, none⟩) (by show w5.heap.size < _; have := hb.size; omega) (by show ¬ w5.heap.size = R; omega)).trans ((hb.cell (p := ⟨w5.heap.size, 1, none⟩) hT7).trans z1)
    rw [hvi] at hv
    have HVI := Lib.hid hvi
    clear hvi
    replace hv := Lib.hid hv
    clear h7 k7 t7 hsg
    go_upto_region 6 with (fail)
    go_cut [10] (fun P wc => ∃ b, P = .pointer (some ⟨b, 0, none⟩) ∧ w7.heap.size ≤ b ∧ wc.heap[b]? = some (.cells #[.string t.text, .iface T0 U0] 73 (0, 0)) ∧ Cd wc R B A n c ts en r3 ∧ Kb (· = R) w7 wc)
    case first =>
      go_region_with (go_at_call 82; refine Calls.mono (hv.out _ (by (repeat (first | exact Below.refl _ _ | refine below_drewN ?_ _ | refine below_drew ?_ | refine Below.alloc ?_ (Nat.le_refl _) _)))) ?_; rintro e w8 ⟨rfl, h8, k8, c8, p8, s8⟩; (first | (obtain ⟨fz8, a80, a81⟩ := row2 ((p8 w7.heap.size (Nat.le_refl _) (lt_of_block (heap_alloc_new _ _))).trans (heap_alloc_new _ _))) | skip))
      all_goals (try go_wp2_with (fail))
      all_goals go_meet
      all_goals first
        | exact ⟨w8.heap.size, rfl, k8.size, heap_alloc_new _ _, h8.alloc _, k8.alloc _⟩
        | exact ⟨w7.heap.size, rfl, Nat.le_refl _, set2_blk ((p8 w7.heap.size (Nat.le_refl _) (lt_of_block (heap_alloc_new _ _))).trans (heap_alloc_new _ _)), h8.set2 (by omega) _ _, Kb.set2 k8 (Nat.le_refl _) _ _⟩
    case rest =>
      obtain ⟨b, rfl, hb7, hbb, hc3, kc⟩ := hcut
      have hR7 := H7.out.lt
      have hbl := lt_of_block hbb
      have e0 := hc3.c0
      have e3 := hc3.c3
      have k9 := K7W.out.trans kc
      have oc := HO.out.kb k9 (fun k hk => by have : k = R := hk; omega)
      have p1 : wc.cell? ⟨w.heap.size + 1, 0, none⟩ = some (.slice A2 n2 c2) := (k9.cell (p := ⟨w.heap.size + 1, 0, none⟩) (cell_lt H1.out) (by show ¬ w.heap.size + 1 = R; omega)).trans H1.out
      have g9 := (k9.block (w.heap.size + 1 + 1) (by omega) (by show ¬ _ = R; omega)).trans HG.out
      have kw := K7.out.trans kc
      obtain ⟨bz, b0, b1⟩ := row2 hbb
      rw [← HVI.out] at b1
      have hp : PredF 83 #[.pointer (some ⟨b, 0, none⟩)] (twiceP (t.text, v0)) wc := by
        intro V x hV
        exact (field2_any (t.text, v0) x b V ((hV.cell (p := ⟨b, 0, none⟩) hbl).trans b0) ((hV.cell (p := ⟨b, 1, none⟩) hbl).trans b1)).mono (fun e w' ⟨h1, h2⟩ => ⟨h1, bt hV h2⟩)
      have hcf := Lib.hid (hasfd_any (twiceP (t.text, v0)) 83 #[.pointer (some ⟨b, 0, none⟩)] ent_f2 A2 n2 c2 wc.heap.size had wc oc.reads (Nat.le_refl _) (by omega) hp)
      rw [HVI.out] at b1
      have hgl := lt_of_block g9
      obtain ⟨gz, y0, y1⟩ := row2 g9
      have hkw := kw.size
      have hs2 : w.heap.size + 1 + 1 < wc.heap.size := hgl
      have hbg : w.heap.size + 1 + 1 < b := by have := K7W.out.size; omega
      have HBB := Lib.hid hbb
      have HC := Lib.hid hc3
      have KW := Lib.hid kw
      have G9 := Lib.hid g9
      have LR := Lib.hid hlt
      have HBG := Lib.hid hbg
      clear hbb hc3 kc k9 oc kw g9 hp hv
      by_cases hbad : r3.bad < 0
      case neg =>
        have HX : Hid (X = ((t.text, v0), r3)) := by show _ = _; rw [HV.out, if_neg (fun x => hbad x.1)]
        have t1 : decide (r3.bad < 0) = false := by simpa using hbad
        obtain ⟨bd, hbd⟩ : ∃ b, r3.bad = b := ⟨_, rfl⟩
        rw [hbd] at t1 e3
        clear HV hbad hbd
        go_wp2
        refine bodyPost_ret (results_cell_row rfl _ _ (w.heap.size + 1 + 1) _ _ _ _ rfl (set2_blk G9.out) Tryz.underlying73 rfl (by kernel_rfl)) rfl ?_
        rw [HX.out]
        exact ⟨by rw [HVI.out], (HC.out).set2 (by omega) _ _, Kb.set2 (KW.out) (by omega) _ _⟩
      have t1 : decide (r3.bad < 0) = true := by simpa using hbad
      cases hz : had.any (twiceP (t.text, v0)) with
      | false =>
        have HX : Hid (X = ((t.text, v0), r3)) := by show _ = _; rw [HV.out, if_neg (fun x => by rw [hz] at x; cases x.2)]
        rw [hz] at hcf
        obtain ⟨bd, hbd⟩ : ∃ b, r3.bad = b := ⟨_, rfl⟩
        rw [hbd] at t1 e3
        clear HV hbad hbd hz
        go_wp2_with (fail)
        refine hcf.out.mono ?_; rintro e wd ⟨rfl, hbd⟩
        have g10 := (hbd.block _ hgl).trans G9.out
        have b10 := (hbd.block _ hbl).trans HBB.out
        have hz10 := hbd.size
        have C10 := Lib.hid (HC.out.below hbd)
        have K10 := Lib.hid (KW.out.trans (Kb.of_below hbd))
        obtain ⟨gz2, y02, y12⟩ := row2 g10
        obtain ⟨bz2, b02, b12⟩ := row2 b10
        have G10 := Lib.hid g10
        have hl10 := lt_of_block g10
        have hl11 := lt_of_block b10
        clear hbd g10 b10 y0 y1 b0 b1 gz bz
        go_wp2
        refine bodyPost_ret (results_cell_row rfl _ _ (w.heap.size + 1 + 1) _ _ _ _ rfl (set2_blk G10.out) Tryz.underlying73 rfl (by kernel_rfl)) rfl ?_
        rw [HX.out]
        exact ⟨by rw [HVI.out], (C10.out).set2 (by omega) _ _, Kb.set2 (K10.out) (by omega) _ _⟩
      | true =>
        have HX : Hid (X = ((t.text, v0), failP ts en ⟨q.at_, r3.bad⟩)) := by show _ = _; rw [HV.out, if_pos ⟨hbad, hz⟩]
        rw [hz] at hcf
        obtain ⟨bd, hbd⟩ : ∃ b, Hid (r3.bad = b) := ⟨_, rfl⟩
        rw [hbd.out] at t1 e3
        clear HV hbad hz
        go_wp2_with (fail)
        refine hcf.out.mono ?_; rintro e wd ⟨rfl, hbd2⟩
        have C10 := HC.out.below hbd2
        have fz1 := C10.fz 1
        have m1 := C10.c1
        have C11 := C10.set1 q.at_
        have g10 := (hbd2.block _ hgl).trans G9.out
        have b10 := (hbd2.block _ hbl).trans HBB.out
        have g11 : (wd.setCell ⟨R, 1, none⟩ (.int .i64 (q.at_ : Int))).heap[w.heap.size + 1 + 1]? = _ := (Below.heap_setCell _ _ _ _ (by show w.heap.size + 1 + 1 ≠ R; omega)).trans g10
        have b11 : (wd.setCell ⟨R, 1, none⟩ (.int .i64 (q.at_ : Int))).heap[b]? = _ := (Below.heap_setCell _ _ _ _ (by show b ≠ R; omega)).trans b10
        have k11 : Kb (· = R) w (wd.setCell ⟨R, 1, none⟩ (.int .i64 (q.at_ : Int))) := Kb.set_ (S := (· = R)) (KW.out.trans (Kb.of_below hbd2)) (p := ⟨R, 1, none⟩) rfl _
        obtain ⟨W9, hW9⟩ : ∃ W9, Hid (wd.setCell ⟨R, 1, none⟩ (.int .i64 (q.at_ : Int)) = W9) := ⟨_, rfl⟩
        rw [hW9.out] at C11 g11 b11 k11
        have hfl := Lib.hid (cfail_any R B n c A ts en ⟨q.at_, r3.bad⟩ W9 C11)
        have G11 := Lib.hid g11
        have B11 := Lib.hid b11
        have K11 := Lib.hid k11
        clear hbd2 C10 C11 g10 b10 g11 b11 k11 y0 y1 b0 b1 gz bz hcf
        go_wp2_with (fail)
        rw [hW9.out]
        refine hfl.out.mono ?_; rintro e wf ⟨rfl, cf, kf⟩
        have g12 := (kf.block _ (lt_of_block G11.out) (by show ¬ _ = R; omega)).trans G11.out
        have b12 := (kf.block _ (lt_of_block B11.out) (by show ¬ _ = R; omega)).trans B11.out
        have K12 := Lib.hid (K11.out.trans kf)
        have C12 := Lib.hid cf
        obtain ⟨gz2, y02, y12⟩ := row2 g12
        obtain ⟨bz2, b02, b12'⟩ := row2 b12
        have G12 := Lib.hid g12
        have hl10 := lt_of_block g12
        have hl11 := lt_of_block b12
        clear kf cf g12 b12 hfl
        go_wp2
        refine bodyPost_ret (results_cell_row rfl _ _ (w.heap.size + 1 + 1) _ _ _ _ rfl (set2_blk G12.out) Tryz.underlying73 rfl (by kernel_rfl)) rfl ?_
        rw [HX.out]
        exact ⟨by rw [HVI.out], (C12.out).set2 (by omega) _ _, Kb.set2 (K12.out) (by omega) _ _⟩
end Go.Proofs.YtjmhaoplablmnaaGreatDoor
