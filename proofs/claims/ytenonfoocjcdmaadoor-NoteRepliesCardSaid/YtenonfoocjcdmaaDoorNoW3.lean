/- Layer 23: Show walked; Index of a text, the closure of Parse. -/
import Derived.Test.YtenonfoocjcdmaaDoorNoW2
namespace Go.Proofs.YtenonfoocjcdmaaDoor
set_option linter.unusedVariables false
open Go.RowKit
theorem itoa_any (x : Int) (w : World) (h0 : -9223372036854775808 ≤ x) (h1 : x ≤ 9223372036854775807) (hT : Lib.TabIs Tryd.prog w "internal/strconv.uint64pow10" .u64 Lib.pow10Tab) :
    Calls Tryd.prog 40 #[.int .i64 x] w fun e w' => e = .returned (.string ⟨(Lib.itoa x).toArray⟩) ∧ Below w.heap.size w w' :=
  (Tryd.strconv_Itoa x h0 h1 w hT).mono fun e w' ⟨he, k, os, hw⟩ => ⟨he, by rw [hw]; exact Lib.below_grow _ _ (Nat.le_refl _) _ _⟩
theorem index_s (A : Option Addr) (n c B : Nat) (l : List ByteArray) (x : ByteArray) (w : World) (hr : Reads w B 1 A n (strs l)) (hn : n ≤ 1000000) :
    Calls Tryd.prog 60 #[.slice A n c, .string x] w fun e w' => e = .returned (.int .i64 (idxS l x)) ∧ w = w' := by
  have hlen : l.length = n := by have := hr.1; simpa [strs] using this
  replace hlen := Lib.hid hlen
  go_enter Tryd.func60, Tryd.ntmps60
  go_wp2
  go_loop [8] (fun i => ∃ k : Nat, k ≤ n ∧ i = .int .i64 k ∧ Hid (∀ y ∈ l.take k, (x.toList == y.toList) = false)) (fun i => n - (intOf i).toNat)
  case atStart => exact ⟨0, Nat.zero_le _, rfl, (by show ∀ y ∈ _, _; simp)⟩
  case round =>
    obtain ⟨k, hk, rfl, HA⟩ := hrel
    by_cases hlt : k < n
    · obtain ⟨b, o, rfl, hb, hc⟩ := hr.plain (by omega) (by omega)
      obtain ⟨y, hy⟩ : ∃ y, Hid (l[k]? = some y) := ⟨_, List.getElem?_eq_getElem (by rw [hlen.out]; exact hlt)⟩
      have c0 := hc k (.string y) (by rw [strs, List.getElem?_map, hy.out]; rfl)
      have hj0 : (0 : Int) ≤ (k : Int) := by omega
      have hj1 : (k : Int) < (n : Int) := by omega
      clear hc hr
      by_cases t1 : (x.toList == y.toList) = true
      · have hf : Hid (idxS l x = (k : Int)) := by show _ = _; unfold idxS; rw [find_first (p := fun (y : ByteArray) => x.toList == y.toList) hy.out t1 HA.out]
        go_wp2
        go_ret
        exact ⟨by rw [hf.out]; rfl, rfl⟩
      · replace t1 : (x.toList == y.toList) = false := by simpa using t1
        have HB : Hid (∀ y ∈ l.take (k + 1), (x.toList == y.toList) = false) := by
          show ∀ y ∈ _, _
          intro z hz
          rw [take_snocT hy.out, List.mem_append] at hz
          rcases hz with hz | hz
          · exact HA.out z hz
          · rw [List.mem_singleton] at hz; subst hz; exact t1
        go_wp2
        go_round
        case rel => exact ⟨k + 1, by omega, by go_num, HB⟩
        case measure => simp [intOf]; omega
    · have hf : Hid (idxS l x = -1) := by
        show _ = _; unfold idxS
        rw [find_none (p := fun (y : ByteArray) => x.toList == y.toList)]
        have := HA.out
        rw [List.take_of_length_le (by rw [hlen.out]; omega)] at this
        exact this
      clear hr
      go_wp2
      go_ret
      exact ⟨by rw [hf.out]; rfl, rfl⟩
theorem parse1_any (t : Tk) (v : Bool) (I : Nat) (w : World) (hI : w.heap[I]? = some (.cells #[.bool v] 4 (0, 0))) :
    Calls Tryd.prog 59 #[tkV t, .pointer (some ⟨I, 0, none⟩)] w fun e w' => e = .returned (.int .i64 t.num) ∧ (w'.heap[I]? = some (.cells #[.bool (v && (t.kind == 2))] 4 (0, 0)) ∧ Kb (· = I) w w') := by
  have c0 : w.cell? ⟨I, 0, none⟩ = some (.bool v) := by simp [World.cell?, hI]
  have f0 : w.frozen? ⟨I, 0, none⟩ = false := by simp [World.frozen?, hI]
  have hlt := lt_of_block hI
  have hset : ∀ (b : Bool), ((w.setCell ⟨I, 0, none⟩ (.bool b)).alloc (.cells #[.int .i64 t.kind, .string t.text, .int .i64 t.num, .int .i64 t.at_] 42)).heap[I]? = some (.cells #[.bool b] 4 (0, 0)) := by
    intro b
    refine (Below.heap_alloc (w.setCell ⟨I, 0, none⟩ (.bool b)) _ I (by simpa [World.setCell] using hlt)).trans ?_
    simp [World.setCell, Array.getElem?_modify, hI]
  have hS := Lib.hid hset
  have hkb : ∀ (b : Bool), Kb (· = I) w ((w.setCell ⟨I, 0, none⟩ (.bool b)).alloc (.cells #[.int .i64 t.kind, .string t.text, .int .i64 t.num, .int .i64 t.at_] 42)) := fun b => (Kb.set_ (S := (· = I)) (Kb.refl _ w) (p := ⟨I, 0, none⟩) rfl _).alloc _
  have hK := Lib.hid hkb
  have hne : I ≠ w.heap.size := by omega
  unfold tkV
  clear hset hkb hI
  cases v
  · go_enter Tryd.func59, Tryd.ntmps59
    go_wp2
    go_ret
    exact ⟨rfl, hS.out false, hK.out _⟩
  · by_cases hk : t.kind = 2
    · have t1 : (t.kind == 2) = true := by simpa using hk
      clear hk
      go_enter Tryd.func59, Tryd.ntmps59
      go_wp2
      go_ret
      exact ⟨rfl, by rw [t1]; exact hS.out true, hK.out _⟩
    · have t1 : (t.kind == 2) = false := by simpa using hk
      clear hk
      go_enter Tryd.func59, Tryd.ntmps59
      go_wp2
      go_ret
      exact ⟨rfl, by rw [t1]; exact hS.out false, hK.out _⟩
def noteStrs (n : Nt) : List ByteArray := (noteTs n).map writtenP
theorem noteStrs_is (n : Nt) : noteStrs n = [wordP n.kind, ⟨(Lib.itoa n.node).toArray⟩, ⟨(Lib.itoa n.job).toArray⟩, ⟨(Lib.itoa n.epoch).toArray⟩] := by
  unfold noteStrs noteTs numT writtenP; simp
def noteVals (n : Nt) : List Int := [n.node, n.job, n.epoch]
theorem strs_step {n : Nt} {k : Nat} {x : Int} (h : (noteVals n)[k]? = some x) : (noteStrs n).take (k + 1 + 1) = (noteStrs n).take (k + 1) ++ [⟨(Lib.itoa x).toArray⟩] := by
  rw [noteStrs_is]
  unfold noteVals at h
  rcases k with _ | _ | _ | k
  · simp at h; subst h; rfl
  · simp at h; subst h; rfl
  · simp at h; subst h; rfl
  · simp at h
def ShowInv (n : Nt) (B G : Nat) (w : World) (o i : Value) (wr : World) : Prop :=
  ∃ k : Nat, k ≤ 3 ∧ i = .int .i64 (k : Int) ∧ Owns wr B 9 1 o (k + 1) (strs ((noteStrs n).take (k + 1))) ∧ Hid (o.ownBlock ≠ some G) ∧ G < wr.heap.size ∧ Hid (∀ (j : Nat) (x : Int), (noteVals n)[j]? = some x → wr.cell? ⟨G, j, none⟩ = some (.int .i64 x)) ∧ Below w.heap.size w wr ∧ B ≤ wr.heap.size
set_option maxHeartbeats 2000000 in
set_option maxRecDepth 100000 in
theorem show23_any (n : Nt) (w : World) (hT : Lib.TabIs Tryd.prog w "internal/strconv.uint64pow10" .u64 Lib.pow10Tab) :
    Calls Tryd.prog 31 #[ntV n] w fun e w' => e = .returned (.tuple #[.string (showN n).1, .int .i64 (showN n).2]) ∧ Below w.heap.size w w' := by
  have hck := Lib.hid (fun v => check23_any n v)
  have hwd := Lib.hid (fun v => word23_any n.kind v)
  have hB0 := Lib.hid (boxN_below n w)
  have hsz : (boxN n w).heap.size = w.heap.size + 1 := by simp [boxN]
  have E0 := Lib.hid (heap_alloc_new w (.cells #[.int .i64 n.kind, .int .i64 n.node, .int .i64 n.job, .int .i64 n.epoch] 57))
  have HR : Hid (showN n = if noteP n then (⟨(joinB (noteTs n)).toArray⟩, 0) else (⟨#[]⟩, 230)) := rfl
  unfold ntV at hck ⊢
  by_cases h : noteP n
  case neg =>
    have he : noteE n = 230 := by unfold noteE; rw [if_neg h]
    have hre : Hid (showN n = (⟨#[]⟩, 230)) := by show _ = _; rw [HR.out, if_neg h]
    rw [he] at hck
    clear h he
    go_enter Tryd.func31, Tryd.ntmps31
    go_wp2_with (go_at_call 34; refine (hck.out _).mono ?_; rintro e w1 ⟨rfl, hb1⟩)
    go_ret2
    exact ⟨by rw [hre.out]; rfl, hB0.out.trans (hb1.mono (by simp))⟩
  have he : noteE n = 0 := by unfold noteE; rw [if_pos h]
  have hre : Hid (showN n = (⟨(joinB (noteTs n)).toArray⟩, 0)) := by show _ = _; rw [HR.out, if_pos h]
  have hle := noteTs_le h
  obtain ⟨a1, a2, a3, a4, a5, a6⟩ := note_num h
  have hvb := Lib.hid (fun (j : Nat) (x : Int) (hx : (noteVals n)[j]? = some x) => (by
    have : x ∈ noteVals n := List.mem_of_getElem? hx
    simp only [noteVals, List.mem_cons, List.not_mem_nil, or_false] at this
    omega : 0 ≤ x ∧ x ≤ 999999999))
  have hwl := Lib.hid (fun (k : Nat) (x : Int) => strs_step (n := n) (k := k) (x := x))
  have hs0 : Hid ((noteStrs n).take (0 + 1) = [wordP n.kind]) := by show _ = _; rw [noteStrs_is]; rfl
  have heq : Lib.join ((noteStrs n).map (·.data.toList)) (⟨#[32]⟩ : ByteArray).data.toList = joinB (noteTs n) := by
    unfold joinB noteStrs; rw [List.map_map]; rfl
  have hjn := Lib.hid (fun A c B v (hv : Reads v B 1 A 4 (strs (noteStrs n))) (hb : B ≤ v.heap.size) (hc : 4 ≤ c) => join_any A 4 c B (noteStrs n) ⟨#[32]⟩ v hv hb hc (by omega) (by rw [heq]; omega))
  rw [heq] at hjn
  obtain ⟨S, hS1, hS2, hS3⟩ := ba_of (joinB (noteTs n))
  rw [hS2.out] at hjn hre
  obtain ⟨W, hW⟩ : ∃ W, Hid (wordP n.kind = W) := ⟨_, rfl⟩
  rw [hW.out] at hwd hs0
  rw [he] at hck
  have hTb := Lib.hid hT
  have hall4 : (noteStrs n).take 4 = noteStrs n := by rw [noteStrs_is]; rfl
  have H4 := Lib.hid hall4
  have hcells : ∀ (G : Nat) (v : World) (t : TypeId), G = v.heap.size → ∀ (j : Nat) (x : Int), (noteVals n)[j]? = some x → (v.alloc (.cells #[.int .i64 n.node, .int .i64 n.job, .int .i64 n.epoch] t)).cell? ⟨G, j, none⟩ = some (.int .i64 x) := by
    intro G v t e j x hx
    subst e
    have := cell_of_row (v.alloc (.cells #[.int .i64 n.node, .int .i64 n.job, .int .i64 n.epoch] t)) v.heap.size j #[.int .i64 n.node, .int .i64 n.job, .int .i64 n.epoch] t (0, 0) (heap_alloc_new v _)
    rw [this]
    unfold noteVals at hx
    rcases j with _ | _ | _ | j <;> simp at hx ⊢ <;> exact hx
  have HC := Lib.hid hcells
  clear hT hall4 heq hle hS3 a1 a2 a3 a4 a5 a6 h he hcells
  go_enter Tryd.func31, Tryd.ntmps31
  go_wp2_with (fail)
  refine (hck.out _).mono ?_; rintro e w1 ⟨rfl, hb1⟩
  have hb1' : Below (boxN n w).heap.size (boxN n w) w1 := hb1
  have e1 := (hb1'.block _ (by omega)).trans E0.out
  have hz1 := hb1'.size
  obtain ⟨f1, c0, c1, c2, c3⟩ := row4 e1
  have hB1 := Lib.hid (hB0.out.trans (hb1'.mono (by omega)))
  replace e1 := Lib.hid e1
  clear hb1 hb1'
  go_wp2_with (fail)
  refine (hwd.out _).mono ?_; rintro e w2 ⟨rfl, hb2⟩
  have e2 := (hb2.block _ (by omega)).trans e1.out
  have hz2 := hb2.size
  have hlt2 : w.heap.size < w2.heap.size := by omega
  have hB2 := Lib.hid (hB1.out.trans (hb2.mono (by omega)))
  clear f1 c0 c1 c2 c3
  obtain ⟨f1, c0, c1, c2, c3⟩ := row4 e2
  clear hb2 e1
  replace e2 := Lib.hid e2
  go_wp2
  go_loopw [5, 25] (ShowInv n w2.heap.size (w2.heap.size + 1) w) (fun _ i _ => 3 - (intOf i).toNat)
  case atStart =>
    refine ⟨0, by omega, rfl, ?_, (by show _ ≠ _; simp [Value.ownBlock]), by simp, ?_, (hB2.out.alloc (by omega) _).alloc (by simp; omega) _, by simp; omega⟩
    · rw [hs0.out]
      exact ((Owns.madeN w2 (strs [W]) _ (by simp [strs]) (by simp [maxLen]) (Nat.le_refl _)).alloc _)
    · show ∀ j x, _
      exact HC.out _ _ _ (by simp)
  case round =>
    obtain ⟨k, hk, rfl, hown, hne, hG, hcl, hbr, hBw⟩ := hrel
    by_cases hlt : k < 3
    · obtain ⟨x, hx⟩ : ∃ x, Hid ((noteVals n)[k]? = some x) := ⟨_, List.getElem?_eq_getElem (by simp [noteVals]; omega)⟩
      have hxb := hvb.out k x hx.out
      have cx := hcl.out k x hx.out
      have hst := hwl.out _ _ hx.out
      obtain ⟨D, hD1, hD2, hD3⟩ := ba_of (Lib.itoa x)
      rw [hD2.out] at hst
      have hit := Lib.hid (itoa_any x wr (by omega) (by omega) (tab_below hTb.out hbr))
      rw [hD2.out] at hit
      have hO := Lib.hid hown
      have hj0 : (0 : Int) ≤ (k : Int) := by omega
      have hj1 : (k : Int) < 3 := by omega
      have Hst := Lib.hid hst
      have hbR := Lib.hid hbr
      clear hst hown hD3 hxb hbr
      go_wp2_with (first
        | (go_at_call 40; refine Calls.mono hit.out ?_; rintro e w3 ⟨rfl, hb3⟩; have hO3 := Lib.hid (hO.out.below hb3); have hz3 := hb3.size; have hB3 := Lib.hid (hbR.out.trans (hb3.mono hbR.out.size)); have hc3 := Lib.hid (fun (j : Nat) => hb3.cell (p := ⟨w2.heap.size + 1, j, none⟩) hG); clear hb3)
        | (at_builtin; refine app_s rfl rfl w2.heap.size rfl (hO3.out.alloc _) (news := [D]) rfl (Reads.made w3 [Value.string D] _) (by omega) (by simp only [World.size_alloc]; omega) ?_))
      intro v4 w4 o4 k4 hob
      have hs3 : w.heap.size ≤ w3.heap.size := hB3.out.size
      have kb4 := k4.below (hB3.out.alloc hs3 _) (by omega) (by simp only [World.size_alloc]; omega)
      have hz4 := k4.hsize
      have hcl4 : Hid (∀ (j : Nat) (x : Int), (noteVals n)[j]? = some x → w4.cell? ⟨w2.heap.size + 1, j, none⟩ = some (.int .i64 x)) := by
        show ∀ (j : Nat) (x : Int), _
        intro j y hy
        rw [k4.cell (p := ⟨w2.heap.size + 1, j, none⟩) (by simp only [World.size_alloc]; omega) hne.out, World.cell?_alloc_lt _ _ _ (by show w2.heap.size + 1 < _; omega), hc3.out j]
        exact hcl.out j y hy
      have hne4 : Hid (v4.ownBlock ≠ some (w2.heap.size + 1)) := by
        show _ ≠ _
        rcases hob with hob | hob
        · rw [hob]; exact hne.out
        · rw [hob]; simp only [ne_eq, Option.some.injEq]; omega
      replace o4 := Lib.hid o4
      simp only [World.size_alloc] at hz4
      clear k4 hob hcl hc3
      go_wp2
      go_roundw
      case rel => exact ⟨k + 1, by omega, by go_num, by rw [Hst.out]; exact o4.out, hne4, by omega, hcl4, kb4, by omega⟩
      case measure => simp [intOf]; omega
    · obtain rfl : k = 3 := by omega
      rw [show 3 + 1 = 4 by rfl, H4.out] at hown
      obtain ⟨A2, c2, rfl, hc2, hm2⟩ := hown.slice
      have hrd := Lib.hid hown.reads
      have hbR := Lib.hid hbr
      clear hown hcl hbr hne
      go_wp2_with (go_at_call 54; refine (hjn.out _ _ _ _ hrd.out (Nat.le_refl _) hc2).mono ?_; rintro e w5 ⟨rfl, hb5⟩)
      go_ret2
      exact ⟨by rw [hre.out]; rfl, hbR.out.trans (hb5.mono hbR.out.size)⟩
end Go.Proofs.YtenonfoocjcdmaaDoor
