/- names of the shelf that the texts of layer 5 use: Tryz.strings_Join Tryz.strings_Join_none Tryz.strings_IndexByte Tryz.strconv_Atoi Tryz.strconv_Itoa Tryz.strconv_Itoa_small Layer 5: what a reader holds; 'while', by the contract of the closure that it is handed. Layer 5: 'while', by the contract of the closure that it is handed; 'fail'. Layer 5: the closures that readers hand to 'while'. Layer 5, plain: the tokens of a row of runes. Layer 5: digits, number. Layer 5: a word, a number or a time, a text. -/
import Derived.Test.YtmkmmggimokagaaGreatDoorK1
import Derived.Test.YtmkmmggimokagaaGreatDoorK3
import Derived.Deep.RegionHeld3
import Derived.Deep.RegionWith
import Derived.Deep.DeepCutAuto
import Derived.Shelf.Abstract
import Derived.Laws.Cover4
import Derived.Test.YtmkmmggimokagaaGreatDoorK2
import Derived.Lib.AtoiErrMem
namespace Go.Proofs.YtmkmmggimokagaaGreatDoor
end Go.Proofs.YtmkmmggimokagaaGreatDoor
namespace Go.Proofs.YtmkmmggimokagaaGreatDoor
set_option linter.unusedVariables false
open Go.RowKit
/-- all blocks but those of S are as they were -/
structure Kb (S : Nat → Prop) (w w' : World) : Prop where
  os : w'.os = w.os
  tape : w'.tape = w.tape
  output : w'.output = w.output
  size : w.heap.size ≤ w'.heap.size
  block : ∀ k, k < w.heap.size → ¬ S k → w'.heap[k]? = w.heap[k]?
section
variable {S S' : Nat → Prop} {w w' w'' : World}
theorem Kb.refl (S : Nat → Prop) (w : World) : Kb S w w := ⟨rfl, rfl, rfl, Nat.le_refl _, fun _ _ _ => rfl⟩
theorem Kb.trans (h : Kb S w w') (k : Kb S w' w'') : Kb S w w'' :=
  ⟨k.os.trans h.os, k.tape.trans h.tape, k.output.trans h.output, Nat.le_trans h.size k.size, fun b hb hS => (k.block b (Nat.lt_of_lt_of_le hb h.size) hS).trans (h.block b hb hS)⟩
theorem Kb.mono (h : Kb S w w') (hS : ∀ k, S k → S' k) : Kb S' w w' := ⟨h.os, h.tape, h.output, h.size, fun b hb hn => h.block b hb (fun x => hn (hS b x))⟩
theorem Kb.of_below (h : Below w.heap.size w w') : Kb S w w' := ⟨h.os, h.tape, h.output, h.size, fun b hb _ => h.block b hb⟩
theorem Kb.below {B : Nat} (h : Kb S w w') (hS : ∀ k, S k → B ≤ k) (hB : B ≤ w.heap.size) : Below B w w' :=
  ⟨h.os, h.tape, h.output, h.size, fun b hb => h.block b (by omega) (fun x => by have := hS b x; omega)⟩
theorem Kb.below_ {B : Nat} {v : World} (hb : Below B v w) (h : Kb S w w') (hS : ∀ k, S k → B ≤ k) (hB : B ≤ w.heap.size) : Below B v w' := hb.trans (h.below hS hB)
theorem Kb.set_ (h : Kb S w w') {p : Addr} (hp : S p.block) (u : Value) : Kb S w (w'.setCell p u) :=
  h.trans ⟨rfl, rfl, rfl, by simp [World.setCell], fun b _ hn => Below.heap_setCell _ _ _ _ (fun e => hn (e ▸ hp))⟩
theorem Kb.alloc (h : Kb S w w') (o : Obj) : Kb S w (w'.alloc o) := h.trans ⟨rfl, rfl, rfl, by simp, fun b hb _ => Below.heap_alloc _ _ _ hb⟩
theorem Kb.drew (h : Kb S w w') : Kb S w w'.drew := ⟨h.os, h.tape, h.output, h.size, h.block⟩
theorem Kb.drewN (h : Kb S w w') (n : Nat) : Kb S w (w'.drewN n) := ⟨h.os, h.tape, h.output, h.size, h.block⟩
theorem Kb.cell (h : Kb S w w') {p : Addr} (hp : p.block < w.heap.size) (hn : ¬ S p.block) : w'.cell? p = w.cell? p := World.cell?_of_block (h.block _ hp hn)
end
/-- the reader in block R: its line, its place, its error -/
structure Rd (w : World) (R : Nat) (A : Option Addr) (n c : Nat) (rs : List Nat) (k bad err : Int) : Prop where
  blk : w.heap[R]? = some (.cells #[.slice A n c, .int .i64 k, .int .i64 bad, .int .i64 err] 154 (0, 0))
  len : rs.length = n
  cap : n ≤ c
  line : 0 < n → ∃ g, A = some ⟨g, 0, none⟩ ∧ g ≠ R ∧ ∀ (j r : Nat), rs[j]? = some r → w.cell? ⟨g, j, none⟩ = some (.int .i32 (r : Int))
section
variable {w w' : World} {R n c : Nat} {A : Option Addr} {rs : List Nat} {k bad err : Int}
theorem Rd.lt (h : Rd w R A n c rs k bad err) : R < w.heap.size := lt_of_block h.blk
theorem Rd.c0 (h : Rd w R A n c rs k bad err) : w.cell? ⟨R, 0, none⟩ = some (.slice A n c) := by simp [World.cell?, h.blk]
theorem Rd.c1 (h : Rd w R A n c rs k bad err) : w.cell? ⟨R, 1, none⟩ = some (.int .i64 k) := by simp [World.cell?, h.blk]
theorem Rd.c2 (h : Rd w R A n c rs k bad err) : w.cell? ⟨R, 2, none⟩ = some (.int .i64 bad) := by simp [World.cell?, h.blk]
theorem Rd.c3 (h : Rd w R A n c rs k bad err) : w.cell? ⟨R, 3, none⟩ = some (.int .i64 err) := by simp [World.cell?, h.blk]
theorem Rd.fz (h : Rd w R A n c rs k bad err) (j : Nat) : w.frozen? ⟨R, j, none⟩ = false := by simp [World.frozen?, h.blk]
theorem Rd.kb {S : Nat → Prop} (h : Rd w R A n c rs k bad err) (hk : Kb S w w') (hR : ¬ S R) (hA : ∀ ad, A = some ad → ¬ S ad.block) : Rd w' R A n c rs k bad err :=
  ⟨(hk.block R h.lt hR).trans h.blk, h.len, h.cap, fun h0 => by
    obtain ⟨g, e, hg, hc⟩ := h.line h0
    refine ⟨g, e, hg, fun j r hr => ?_⟩
    have h1 := hc j r hr
    exact (hk.cell (cell_lt h1) (hA ⟨g, 0, none⟩ e)).trans h1⟩
theorem Rd.below (h : Rd w R A n c rs k bad err) (hb : Below w.heap.size w w') : Rd w' R A n c rs k bad err := h.kb (S := fun _ => False) (Kb.of_below hb) id (fun _ _ => id)
theorem Rd.drew (h : Rd w R A n c rs k bad err) : Rd w.drew R A n c rs k bad err := ⟨h.blk, h.len, h.cap, h.line⟩
theorem Rd.drewN (h : Rd w R A n c rs k bad err) (m : Nat) : Rd (w.drewN m) R A n c rs k bad err := ⟨h.blk, h.len, h.cap, h.line⟩
theorem Rd.keepLine (h : Rd w R A n c rs k bad err) {k' bad' err' : Int} (hb : w'.heap[R]? = some (.cells #[.slice A n c, .int .i64 k', .int .i64 bad', .int .i64 err'] 154 (0, 0)))
    (hc : ∀ p : Addr, p.block ≠ R → w'.cell? p = w.cell? p) : Rd w' R A n c rs k' bad' err' :=
  ⟨hb, h.len, h.cap, fun h0 => by
    obtain ⟨g, e, hg, hl⟩ := h.line h0
    exact ⟨g, e, hg, fun j r hr => (hc _ hg).trans (hl j r hr)⟩⟩
theorem Rd.set1 (h : Rd w R A n c rs k bad err) (k' : Int) : Rd (w.setCell ⟨R, 1, none⟩ (.int .i64 k')) R A n c rs k' bad err := by
  refine h.keepLine ?_ (fun p hp => World.cell?_setCell_other w _ p _ (fun e => hp (congrArg Addr.block e).symm))
  simp [World.setCell, Array.getElem?_modify, h.blk]
theorem Rd.set2 (h : Rd w R A n c rs k bad err) (b' : Int) : Rd (w.setCell ⟨R, 2, none⟩ (.int .i64 b')) R A n c rs k b' err := by
  refine h.keepLine ?_ (fun p hp => World.cell?_setCell_other w _ p _ (fun e => hp (congrArg Addr.block e).symm))
  simp [World.setCell, Array.getElem?_modify, h.blk]
theorem Rd.set3 (h : Rd w R A n c rs k bad err) (b' : Int) : Rd (w.setCell ⟨R, 3, none⟩ (.int .i64 b')) R A n c rs k bad b' := by
  refine h.keepLine ?_ (fun p hp => World.cell?_setCell_other w _ p _ (fun e => hp (congrArg Addr.block e).symm))
  simp [World.setCell, Array.getElem?_modify, h.blk]
end
/-- the place that a reader's block tells -/
def placeOf (w : World) (R : Nat) : Nat := match w.cell? ⟨R, 1, none⟩ with | some (.int _ k) => k.toNat | _ => 0
theorem placeOf_eq {w : World} {R k : Nat} (h : w.cell? ⟨R, 1, none⟩ = some (.int .i64 (k : Int))) : placeOf w R = k := by simp [placeOf, h]
/-- the text of some runes -/
def strR (rs : List Nat) : ByteArray := ⟨(rs.flatMap enc).toArray⟩
theorem tn (a : Nat) (x : Int) (h : x = (a : Int)) : x.toNat.toUInt8 = UInt8.ofNat a := by subst h; simp
set_option maxRecDepth 100000 in
theorem encode_enc (r : Nat) : (Utf8.encode (r : Int)).data.toList = enc r := by
  unfold Utf8.encode enc Lib.encodeRune
  have hv : Utf8.valid (r : Int) = true ↔ (r < 55296 ∨ (57344 ≤ r ∧ r ≤ 1114111)) := by unfold Utf8.valid; simp; omega
  by_cases h : Utf8.valid (r : Int) = true
  · rw [if_pos h]
    have h' := hv.1 h
    simp only [Int.toNat_natCast]
    by_cases h1 : r < 128
    · rw [if_pos h1, Lib.encodeRuneZ, if_pos (by omega)]
      simp
    rw [if_neg h1]
    by_cases h2 : r < 2048
    · rw [if_pos h2, Lib.encodeRuneZ, if_neg (by omega), if_pos (by omega)]
      simp only [List.map_cons, List.map_nil]
      rw [tn (192 + r / 64) _ (by omega), tn (128 + r % 64) _ (by omega)]
    rw [if_neg h2]
    by_cases h3 : r < 65536
    · rw [if_pos h3, Lib.encodeRuneZ, if_neg (by omega), if_neg (by omega), if_pos (by omega)]
      simp only [List.map_cons, List.map_nil]
      rw [tn (224 + r / 4096) _ (by omega), tn (128 + r / 64 % 64) _ (by omega), tn (128 + r % 64) _ (by omega)]
    rw [if_neg h3, Lib.encodeRuneZ, if_neg (by omega), if_neg (by omega), if_neg (by omega), if_pos (by omega)]
    simp only [List.map_cons, List.map_nil]
    rw [tn (240 + r / 262144) _ (by omega), tn (128 + r / 4096 % 64) _ (by omega), tn (128 + r / 64 % 64) _ (by omega), tn (128 + r % 64) _ (by omega)]
  · have h' := (not_congr hv).1 h
    have e : Lib.encodeRuneZ (r : Int) = [239, 191, 189] := by
      rw [Lib.encodeRuneZ, if_neg (by omega), if_neg (by omega), if_neg (by omega), if_neg (by omega)]
    rw [if_neg h, e]
    decide
theorem runesBytes_eq (rs : List Nat) : runesBytes (rs.map (fun r : Nat => (r : Int))) = strR rs := by
  have key : ∀ (rs : List Nat) (b : ByteArray), ((rs.map (fun r : Nat => (r : Int))).foldl (fun r n => r ++ Utf8.encode n) b) = ⟨(b.data.toList ++ rs.flatMap enc).toArray⟩ := by
    intro rs
    induction rs with
    | nil => intro b; simp
    | cons r t ih =>
      intro b
      rw [List.map_cons, List.foldl_cons, ih]
      have e : (b ++ Utf8.encode (r : Int)).data.toList = b.data.toList ++ enc r := by
        rw [ByteArray.data_append, Array.toList_append, encode_enc]
      rw [e]; simp [List.flatMap_cons]
  have h := key rs ByteArray.empty
  unfold runesBytes strR
  rw [h]; simp
set_option maxRecDepth 1000000 in
/-- 'line[i:j]', and 'string(line[i:j])' -/
theorem str_of_runes {w : World} {R n c : Nat} {A : Option Addr} {rs : List Nat} {k bad err : Int} (h : Rd w R A n c rs k bad err) {i j : Nat} (hij : i ≤ j) (hj : j ≤ n) :
    ∃ A' c', (∀ v : World, (Instr.slice 152 (.slice A n c) (some (.int .i64 (i : Int))) (some (.int .i64 (j : Int))) none).run Tryz.prog v = .ok (.slice A' (j - i) c') v) ∧
      (∀ v : World, (Instr.sliceAt 152 (.slice A n c) (some (.int .i64 (i : Int))) (some (.int .i64 (j : Int))) none).run Tryz.prog v = .ok (.slice A' (j - i) c') v) ∧
      ∀ v : World, (∀ p : Addr, p.block ≠ R → p.block < w.heap.size → v.cell? p = w.cell? p) → (convert 152 9 (.slice A' (j - i) c')).run Tryz.prog v = .ok (.string (strR ((rs.drop i).take (j - i)))) v := by
  have hcap := h.cap
  have hlen := h.len
  have h1 : ∀ v : World, (Instr.slice 152 (.slice A n c) (some (.int .i64 (i : Int))) (some (.int .i64 (j : Int))) none).run Tryz.prog v = .ok (.slice (if c = i then A else A.map (·.add (i * 1))) (j - i) (c - i)) v := by
    intro v
    rw [run_slice_lh v 152 A n c Tryz.underlying152 .i64 .i64 (i : Int) (j : Int) (by omega) (by omega) (by omega)]
    have e : (sizeOf (Tryz.prog.elem 152)).run Tryz.prog v = .ok 1 v := by
      have ee : Tryz.prog.elem 152 = 21 := by kernel_rfl
      rw [ee]; exact Tryz.sizeOf21 v
    rw [e]
    simp [Result.andThen, sliced]
  refine ⟨_, _, h1, fun v => ?_, fun v hv => ?_⟩
  · rw [run_sliceAt_slice v _ _ _ _ _ Tryz.underlying152]; exact h1 v
  · rcases Nat.eq_or_lt_of_le hij with e | hlt
    · subst e
      simp only [Nat.sub_self, List.take_zero]
      generalize (if c = i then A else A.map (·.add (i * 1))) = A2
      rcases A2 with _ | a
      · exact run_convert_runes_nil v _ _ 21 _ _ Tryz.underlying152 Tryz.underlying21 Tryz.underlying9
      · exact run_convert_runes v _ _ 21 a 0 _ [] (by simp) Tryz.underlying152 Tryz.underlying21 Tryz.underlying9 (by simp)
    · obtain ⟨g, rfl, hg, hl⟩ := h.line (by omega)
      rw [if_neg (by omega)]
      have e0 : (Option.map (·.add (i * 1)) (some (⟨g, 0, none⟩ : Addr))) = some ⟨g, i, none⟩ := by
        simp only [Option.map_some, Nat.mul_one, Option.some.injEq]; unfold Addr.add; split <;> simp_all
      rw [e0]
      have h2 := run_convert_runes (P := Tryz.prog) v 152 9 21 ⟨g, i, none⟩ (j - i) (c - i) ((rs.drop i).map (fun r : Nat => (r : Int))) (by simp; omega) Tryz.underlying152 Tryz.underlying21 Tryz.underlying9 (by
        intro q hq
        simp at hq
        have hq2 : i + q < rs.length := by omega
        have e2 : (Addr.add ⟨g, i, none⟩ q) = ⟨g, i + q, none⟩ := by unfold Addr.add; split <;> simp_all
        rw [e2, hv ⟨g, i + q, none⟩ hg (cell_lt (hl (i + q) _ (List.getElem?_eq_getElem hq2))), hl (i + q) _ (List.getElem?_eq_getElem hq2)]
        simp [List.getD, List.getElem?_drop, List.getElem?_eq_getElem hq2])
      rw [h2, ← List.map_take, runesBytes_eq]
theorem fail_first (R n c : Nat) (A : Option Addr) (rs : List Nat) (k bad : Int) (at_ e : Int) (w : World) (h : Rd w R A n c rs k bad 0) :
    Calls Tryz.prog 120 #[.pointer (some ⟨R, 0, none⟩), .int .i64 at_, .int .i64 e] w fun x w' => x = .returned (.tuple #[]) ∧ Rd w' R A n c rs k at_ e ∧ Kb (· = R) w w' := by
  have h3 := h.c3
  have h2 := h.c2
  have h3' : (w.setCell ⟨R, 2, none⟩ (.int .i64 at_)).cell? ⟨R, 3, none⟩ = some (.int .i64 0) := (h.set2 at_).c3
  have f2 := h.fz 2
  have f3 := h.fz 3
  have r' := Lib.hid ((h.set2 at_).set3 e)
  have kb := Lib.hid (((Kb.refl (· = R) w).set_ (p := ⟨R, 2, none⟩) rfl (.int .i64 at_)).set_ (p := ⟨R, 3, none⟩) rfl (.int .i64 e))
  have f3' : (w.setCell ⟨R, 2, none⟩ (.int .i64 at_)).frozen? ⟨R, 3, none⟩ = false := (h.set2 at_).fz 3
  clear h
  go_enter Tryz.func120, Tryz.ntmps120
  go_wp2
  go_end0
  exact ⟨rfl, r'.out, kb.out⟩
set_option linter.unusedSimpArgs false in
set_option maxRecDepth 100000 in
set_option maxHeartbeats 2000000 in
theorem while_any (R n c : Nat) (A : Option Addr) (rs : List Nat) (i m : Nat) (bad err : Int) (F : FuncId) (caps : Array Value) (hF : Enters Tryz.prog F) (H : Nat → Prop) (J : Nat → World → Prop) (p : Nat → Bool) (w : World)
    (hR : ¬ H R) (hA : ∀ ad, A = some ad → ¬ H ad.block)
    (hJ : ∀ k v v', J k v → (∀ b, b ≠ R → v'.heap[b]? = v.heap[b]?) → J k v')
    (hc : ∀ k r v, rs[k]? = some r → i ≤ k → k ≤ m → J k v → Calls Tryz.prog F (#[.int .i32 (r : Int)] ++ caps) v fun e v' => e = .returned (.bool (p k)) ∧ Kb H v v' ∧ J (if p k then k + 1 else k) v')
    (h0 : Rd w R A n c rs i bad err) (hj : J i w) (him : i ≤ m) (hmn : m ≤ n) (hp : ∀ k, i ≤ k → k < m → p k = true) (hpm : m < n → p m = false) (hn : n ≤ 100000) (hcm : c ≤ maxLen) :
    Calls Tryz.prog 111 #[.pointer (some ⟨R, 0, none⟩), .func (.func F) #[] caps] w fun e w' =>
      e = .returned (.string (strR ((rs.drop i).take (m - i)))) ∧ Rd w' R A n c rs m bad err ∧ J m w' ∧ Kb (fun b => b = R ∨ H b) w w' := by
  have hc1 := h0.c1
  unfold maxLen at hcm
  go_enter Tryz.func111, Tryz.ntmps111
  go_wp2_with fail
  go_loopw [] (fun wr => ∃ k : Nat, i ≤ k ∧ k ≤ m ∧ Rd wr R A n c rs k bad err ∧ J k wr ∧ Kb (fun b => b = R ∨ H b) w wr) (fun wr => n - placeOf wr R)
  case atStart => exact ⟨i, Nat.le_refl _, him, h0, hj, Kb.refl _ _⟩
  case round =>
    obtain ⟨k, hik, hkm, hr, hjk, hkb⟩ := hrel
    clear hc1
    have d0 := hr.c0
    have d1 := hr.c1
    by_cases hkn : k < n
    · obtain ⟨r, hrk⟩ : ∃ r, rs[k]? = some r := ⟨_, List.getElem?_eq_getElem (by rw [hr.len]; exact hkn)⟩
      obtain ⟨g, rfl, hg, hl⟩ := hr.line (by omega)
      have d2 := hl k r hrk
      have hlt : ((k : Int) < (n : Int)) := by omega
      have hgl := cell_lt d2
      have hgH := hA _ rfl
      have hRl := hr.lt
      have hcall := hc k r wr.drew hrk hik hkm (hJ _ _ _ hjk (fun _ _ => rfl))
      have hS : ∀ v', Kb H wr.drew v' → v'.cell? ⟨R, 0, none⟩ = some (.slice (some ⟨g, 0, none⟩) n c) ∧ v'.cell? ⟨R, 1, none⟩ = some (.int .i64 k) ∧ v'.cell? ⟨g, k, none⟩ = some (.int .i32 r) := fun v' hv =>
        ⟨(hv.cell (p := ⟨R, 0, none⟩) hRl hR).trans d0, (hv.cell (p := ⟨R, 1, none⟩) hRl hR).trans d1, (hv.cell (p := ⟨g, k, none⟩) hgl hgH).trans d2⟩
      have hz1 := hr.fz 1
      cases hpk : p k with
      | true =>
        have hkm2 : k < m := by
          rcases Nat.lt_or_ge k m with h | h
          · exact h
          · have : k = m := by omega
            subst this
            rw [hpm hkn] at hpk; cases hpk
        rw [hpk] at hcall
        go_upto_region 2 with (fail)
        refine wp_region_held_drew (S := (fun w' => w'.cell? ⟨R, 0, none⟩ = some (.slice (some ⟨g, 0, none⟩) n c) ∧ w'.cell? ⟨R, 1, none⟩ = some (.int .i64 k) ∧ w'.cell? ⟨g, k, none⟩ = some (.int .i32 r))) (by kernel_rfl) ?_ (fun hHeld => ?_)
        · (try dsimp only); (first | assumption | exact ⟨d0, d1, d2⟩ | exact hS _ (by assumption))
        refine wpAnyH_take (i := 0) (oi := ⟨_, _, _, _, _, _⟩) (v := ?v_1) rfl (by kernel_rfl) (by kernel_rfl) (by kernel_rfl) (fun _ _ _ h => h) (Or.inl ⟨by rfl, ?hy_1⟩) (by assumption) ?r_1
        case hy_1 => (intro w_ hS_; (try dsimp only at hS_); go_simp; try with_reducible rfl)
        try simp only [Act.put, List.setIfInBounds_toArray, List.set_cons_zero, List.set_cons_succ]
        refine wpAnyH_take (i := 1) (oi := ⟨_, _, _, _, _, _⟩) (v := ?v_2) rfl (by kernel_rfl) (by kernel_rfl) (by kernel_rfl) (fun _ _ _ h => h) (Or.inl ⟨by rfl, ?hy_2⟩) (by assumption) ?r_2
        case hy_2 => (intro w_ hS_; (try dsimp only at hS_); go_simp; try with_reducible rfl)
        try simp only [Act.put, List.setIfInBounds_toArray, List.set_cons_zero, List.set_cons_succ]
        refine wpAnyH_take (i := 2) (oi := ⟨_, _, _, _, _, _⟩) (v := ?v_3) rfl (by kernel_rfl) (by kernel_rfl) (by kernel_rfl) (fun _ _ _ h => h) (Or.inl ⟨by rfl, ?hy_3⟩) (by assumption) ?r_3
        case hy_3 => (intro w_ hS_; (try dsimp only at hS_); go_simp; try with_reducible rfl)
        try simp only [Act.put, List.setIfInBounds_toArray, List.set_cons_zero, List.set_cons_succ]
        refine wpAnyH_take (i := 3) (oi := ⟨_, _, _, _, _, _⟩) (v := ?v_4) rfl (by kernel_rfl) (by kernel_rfl) (by kernel_rfl) (fun _ _ _ h => h) (Or.inl ⟨by rfl, ?hy_4⟩) (by assumption) ?r_4
        case hy_4 => (intro w_ hS_; (try dsimp only at hS_); go_simp; try with_reducible rfl)
        try simp only [Act.put, List.setIfInBounds_toArray, List.set_cons_zero, List.set_cons_succ]
        refine wpAnyH_take (i := 4) (oi := ⟨_, _, _, _, _, _⟩) (v := ?v_5) rfl (by kernel_rfl) (by kernel_rfl) (by kernel_rfl) (fun _ _ _ h => h) (Or.inl ⟨by rfl, ?hy_5⟩) (by assumption) ?r_5
        case hy_5 => (intro w_ hS_; (try dsimp only at hS_); go_simp; try with_reducible rfl)
        try simp only [Act.put, List.setIfInBounds_toArray, List.set_cons_zero, List.set_cons_succ]
        refine wpAnyH_take (i := 5) (oi := ⟨_, _, _, _, _, _⟩) (v := ?v_6) rfl (by kernel_rfl) (by kernel_rfl) (by kernel_rfl) (fun _ _ _ h => h) (Or.inl ⟨by rfl, ?hy_6⟩) (by assumption) ?r_6
        case hy_6 => (intro w_ hS_; (try dsimp only at hS_); go_simp; try with_reducible rfl)
        try simp only [Act.put, List.setIfInBounds_toArray, List.set_cons_zero, List.set_cons_succ]
        refine wpAnyH_take (i := 6) (oi := ⟨_, _, _, _, _, _⟩) (v := ?v_7) rfl (by kernel_rfl) (by kernel_rfl) (by kernel_rfl) (fun _ _ _ h => h) (Or.inl ⟨by rfl, ?hy_7⟩) (by assumption) ?r_7
        case hy_7 => (intro w_ hS_; (try dsimp only at hS_); go_simp; try with_reducible rfl)
        try simp only [Act.put, List.setIfInBounds_toArray, List.set_cons_zero, List.set_cons_succ]
        refine wpAnyH_take (i := 7) (oi := ⟨_, _, _, _, _, _⟩) (v := ?v_8) rfl (by kernel_rfl) (by kernel_rfl) (by kernel_rfl) (fun _ _ _ h => h) (Or.inl ⟨by rfl, ?hy_8⟩) (by assumption) ?r_8
        case hy_8 => (intro w_ hS_; (try dsimp only at hS_); go_simp; try with_reducible rfl)
        try simp only [Act.put, List.setIfInBounds_toArray, List.set_cons_zero, List.set_cons_succ]
        refine wpAnyH_take (i := 8) (oi := ⟨_, _, _, _, _, _⟩) (v := ?v_9) rfl (by kernel_rfl) (by kernel_rfl) (by kernel_rfl) (fun _ _ _ h => h) (Or.inl ⟨by rfl, ?hy_9⟩) (by assumption) ?r_9
        case hy_9 => (intro w_ hS_; (try dsimp only at hS_); go_simp; try with_reducible rfl)
        try simp only [Act.put, List.setIfInBounds_toArray, List.set_cons_zero, List.set_cons_succ]
        refine wpAnyH_take (i := 9) (oi := ⟨_, _, _, _, _, _⟩) (v := ?v_10) rfl (by kernel_rfl) (by kernel_rfl) (by kernel_rfl) (fun _ _ _ h => h) (Or.inl ⟨by rfl, ?hy_10⟩) (by assumption) ?r_10
        case hy_10 => (intro w_ hS_; (try dsimp only at hS_); go_simp; try with_reducible rfl)
        try simp only [Act.put, List.setIfInBounds_toArray, List.set_cons_zero, List.set_cons_succ]
        refine wpAnyH_take (i := 10) (oi := ⟨_, _, _, _, _, _⟩) (v := ?v_11) rfl (by kernel_rfl) (by kernel_rfl) (by kernel_rfl) (fun _ _ _ h => h) (Or.inl ⟨by rfl, ?hy_11⟩) (by assumption) ?r_11
        case hy_11 => (intro w_ hS_; (try dsimp only at hS_); go_simp; try with_reducible rfl)
        try simp only [Act.put, List.setIfInBounds_toArray, List.set_cons_zero, List.set_cons_succ]
        refine wpAnyH_take (i := 11) (oi := ⟨_, _, _, _, _, _⟩) (v := ?v_12) rfl (by kernel_rfl) (by kernel_rfl) (by kernel_rfl) (fun _ _ _ h => h) (Or.inl ⟨by rfl, ?hy_12⟩) (by assumption) ?r_12
        case hy_12 => (intro w_ hS_; (try dsimp only at hS_); go_simp; try with_reducible rfl)
        try simp only [Act.put, List.setIfInBounds_toArray, List.set_cons_zero, List.set_cons_succ]
        refine wpAnyH_take (i := 12) (oi := ⟨_, _, _, _, _, _⟩) (v := ?v_13) rfl (by kernel_rfl) (by kernel_rfl) (by kernel_rfl) (fun _ _ _ h => h) (Or.inl ⟨by rfl, ?hy_13⟩) (by assumption) ?r_13
        case hy_13 => (intro w_ hS_; (try dsimp only at hS_); go_simp; try with_reducible rfl)
        try simp only [Act.put, List.setIfInBounds_toArray, List.set_cons_zero, List.set_cons_succ]
        refine wpAnyH_take (i := 13) (oi := ⟨_, _, _, _, _, _⟩) (v := ?v_14) rfl (by kernel_rfl) (by kernel_rfl) (by kernel_rfl) (fun _ _ _ h => h) (Or.inl ⟨by rfl, ?hy_14⟩) (by assumption) ?r_14
        case hy_14 => (intro w_ hS_; (try dsimp only at hS_); go_simp; try with_reducible rfl)
        try simp only [Act.put, List.setIfInBounds_toArray, List.set_cons_zero, List.set_cons_succ]
        refine wpAnyH_take (i := 14) (oi := ⟨_, _, _, _, _, _⟩) (v := ?v_15) rfl (by kernel_rfl) (by kernel_rfl) (by kernel_rfl) (fun _ _ _ h => h) (Or.inl ⟨by rfl, ?hy_15⟩) (by assumption) ?r_15
        case hy_15 => (intro w_ hS_; (try dsimp only at hS_); go_simp; try with_reducible rfl)
        try simp only [Act.put, List.setIfInBounds_toArray, List.set_cons_zero, List.set_cons_succ]
        refine wpAnyH_take (i := 15) (oi := ⟨_, _, _, _, _, _⟩) (v := ?v_16) rfl (by kernel_rfl) (by kernel_rfl) (by kernel_rfl) (fun _ _ _ h => h) (Or.inl ⟨by rfl, ?hy_16⟩) (by assumption) ?r_16
        case hy_16 => (intro w_ hS_; (try dsimp only at hS_); go_simp; try with_reducible rfl)
        try simp only [Act.put, List.setIfInBounds_toArray, List.set_cons_zero, List.set_cons_succ]
        refine wpAnyH_take (i := 16) (oi := ⟨_, _, _, _, _, _⟩) (v := ?v_17) rfl (by kernel_rfl) (by kernel_rfl) (by kernel_rfl) (fun _ _ _ h => h) (Or.inl ⟨by rfl, ?hy_17⟩) (by assumption) ?r_17
        case hy_17 => (intro w_ hS_; (try dsimp only at hS_); go_simp; try with_reducible rfl)
        try simp only [Act.put, List.setIfInBounds_toArray, List.set_cons_zero, List.set_cons_succ]
        refine wpAnyH_take (i := 17) (oi := ⟨_, _, _, _, _, _⟩) (v := ?v_18) rfl (by kernel_rfl) (by kernel_rfl) (by kernel_rfl) (fun _ _ _ h => h) (Or.inl ⟨by rfl, ?hy_18⟩) (by assumption) ?r_18
        case hy_18 => (intro w_ hS_; (try dsimp only at hS_); go_simp; try with_reducible rfl)
        try simp only [Act.put, List.setIfInBounds_toArray, List.set_cons_zero, List.set_cons_succ]
        refine wpAnyH_take (i := 18) (oi := ⟨_, _, _, _, _, _⟩) (v := ?v_19) rfl (by kernel_rfl) (by kernel_rfl) (by kernel_rfl) (fun _ _ _ h => h) (Or.inl ⟨by rfl, ?hy_19⟩) (by assumption) ?r_19
        case hy_19 => (intro w_ hS_; (try dsimp only at hS_); go_simp; try with_reducible rfl)
        try simp only [Act.put, List.setIfInBounds_toArray, List.set_cons_zero, List.set_cons_succ]
        refine wpAnyH_take (i := 19) (oi := ⟨_, _, _, _, _, _⟩) (v := ?v_20) rfl (by kernel_rfl) (by kernel_rfl) (by kernel_rfl) (fun _ _ _ h => h) (Or.inl ⟨by rfl, ?hy_20⟩) (by assumption) ?r_20
        case hy_20 => (intro w_ hS_; (try dsimp only at hS_); go_simp; try with_reducible rfl)
        try simp only [Act.put, List.setIfInBounds_toArray, List.set_cons_zero, List.set_cons_succ]
        refine wpAnyH_take (i := 20) (oi := ⟨_, _, _, _, _, _⟩) (v := ?v_21) rfl (by kernel_rfl) (by kernel_rfl) (by kernel_rfl) (fun _ _ _ h => h) (Or.inl ⟨by rfl, ?hy_21⟩) (by assumption) ?r_21
        case hy_21 => (intro w_ hS_; (try dsimp only at hS_); go_simp; try with_reducible rfl)
        try simp only [Act.put, List.setIfInBounds_toArray, List.set_cons_zero, List.set_cons_succ]
        refine wpAnyH_take (i := 21) (oi := ⟨_, _, _, _, _, _⟩) (v := ?v_22) rfl (by kernel_rfl) (by kernel_rfl) (by kernel_rfl) (fun _ _ _ h => h) (Or.inl ⟨by rfl, ?hy_22⟩) (by assumption) ?r_22
        case hy_22 => (intro w_ hS_; (try dsimp only at hS_); go_simp; try with_reducible rfl)
        try simp only [Act.put, List.setIfInBounds_toArray, List.set_cons_zero, List.set_cons_succ]
        refine wpAnyH_ready (rs := [22]) (by kernel_rfl) (by simp) ?_
        refine AllReadyH.cons (o := ⟨_, _, _, _, _, _⟩) rfl (fun K hK => ?_) AllReadyH.nil
        go_simp
        ((rw [hF]; refine Calls.mono hcall ?_; rintro e w7 ⟨rfl, hk7, hj7⟩; dsimp only))
        try go_wp2_with (fail)
        refine hK.out _ _ ?_ (fun hHeld => ?_)
        · (try dsimp only); (first | assumption | exact ⟨d0, d1, d2⟩ | exact hS _ (by assumption))
        clear hK K
        try simp only [Act.put, List.setIfInBounds_toArray, List.set_cons_zero, List.set_cons_succ]
        refine wpAnyH_take (i := 23) (oi := ⟨_, _, _, _, _, _⟩) (v := ?v_23) rfl (by kernel_rfl) (by kernel_rfl) (by kernel_rfl) (fun _ _ _ h => h) (Or.inl ⟨by rfl, ?hy_23⟩) (by assumption) ?r_23
        case hy_23 => (intro w_ hS_; (try dsimp only at hS_); go_simp; try with_reducible rfl)
        try simp only [Act.put, List.setIfInBounds_toArray, List.set_cons_zero, List.set_cons_succ]
        refine wpAnyH_done (by kernel_rfl) ?_ _
        have hr7 := hr.drew.kb hk7 hR hA
        have hr8 := Lib.hid (hr7.set1 ((k : Int) + 1))
        have e1 := hr7.c1
        have f1 := hr7.fz 1
        have hj8 : J (k + 1) (w7.setCell ⟨R, 1, none⟩ (.int .i64 ((k : Int) + 1))) := hJ _ _ _ (by simpa using hj7) (fun b hb => Below.heap_setCell _ _ _ _ hb)
        have hk8 := Lib.hid ((hkb.drew.trans (hk7.mono (fun b hb => Or.inr hb))).set_ (p := ⟨R, 1, none⟩) (.inl rfl) (.int .i64 ((k : Int) + 1)))
        clear hr7 hj7 hk7
        go_wp2
        go_roundw
        case rel => exact ⟨k + 1, by omega, by omega, by simpa using hr8.out, hj8, hk8.out⟩
        case measure => rw [placeOf_eq (k := k + 1) (by simpa using hr8.out.c1), placeOf_eq d1]; omega
      | false =>
        have hkm2 : k = m := by
          rcases Nat.lt_or_ge k m with h | h
          · rw [hp k hik h] at hpk; cases hpk
          · omega
        subst hkm2
        rw [hpk] at hcall
        go_upto_region 2 with (fail)
        refine wp_region_held_drew (S := (fun w' => w'.cell? ⟨R, 0, none⟩ = some (.slice (some ⟨g, 0, none⟩) n c) ∧ w'.cell? ⟨R, 1, none⟩ = some (.int .i64 k) ∧ w'.cell? ⟨g, k, none⟩ = some (.int .i32 r))) (by kernel_rfl) ?_ (fun hHeld => ?_)
        · (try dsimp only); (first | assumption | exact ⟨d0, d1, d2⟩ | exact hS _ (by assumption))
        refine wpAnyH_take (i := 0) (oi := ⟨_, _, _, _, _, _⟩) (v := ?v_24) rfl (by kernel_rfl) (by kernel_rfl) (by kernel_rfl) (fun _ _ _ h => h) (Or.inl ⟨by rfl, ?hy_24⟩) (by assumption) ?r_24
        case hy_24 => (intro w_ hS_; (try dsimp only at hS_); go_simp; try with_reducible rfl)
        try simp only [Act.put, List.setIfInBounds_toArray, List.set_cons_zero, List.set_cons_succ]
        refine wpAnyH_take (i := 1) (oi := ⟨_, _, _, _, _, _⟩) (v := ?v_25) rfl (by kernel_rfl) (by kernel_rfl) (by kernel_rfl) (fun _ _ _ h => h) (Or.inl ⟨by rfl, ?hy_25⟩) (by assumption) ?r_25
        case hy_25 => (intro w_ hS_; (try dsimp only at hS_); go_simp; try with_reducible rfl)
        try simp only [Act.put, List.setIfInBounds_toArray, List.set_cons_zero, List.set_cons_succ]
        refine wpAnyH_take (i := 2) (oi := ⟨_, _, _, _, _, _⟩) (v := ?v_26) rfl (by kernel_rfl) (by kernel_rfl) (by kernel_rfl) (fun _ _ _ h => h) (Or.inl ⟨by rfl, ?hy_26⟩) (by assumption) ?r_26
        case hy_26 => (intro w_ hS_; (try dsimp only at hS_); go_simp; try with_reducible rfl)
        try simp only [Act.put, List.setIfInBounds_toArray, List.set_cons_zero, List.set_cons_succ]
        refine wpAnyH_take (i := 3) (oi := ⟨_, _, _, _, _, _⟩) (v := ?v_27) rfl (by kernel_rfl) (by kernel_rfl) (by kernel_rfl) (fun _ _ _ h => h) (Or.inl ⟨by rfl, ?hy_27⟩) (by assumption) ?r_27
        case hy_27 => (intro w_ hS_; (try dsimp only at hS_); go_simp; try with_reducible rfl)
        try simp only [Act.put, List.setIfInBounds_toArray, List.set_cons_zero, List.set_cons_succ]
        refine wpAnyH_take (i := 4) (oi := ⟨_, _, _, _, _, _⟩) (v := ?v_28) rfl (by kernel_rfl) (by kernel_rfl) (by kernel_rfl) (fun _ _ _ h => h) (Or.inl ⟨by rfl, ?hy_28⟩) (by assumption) ?r_28
        case hy_28 => (intro w_ hS_; (try dsimp only at hS_); go_simp; try with_reducible rfl)
        try simp only [Act.put, List.setIfInBounds_toArray, List.set_cons_zero, List.set_cons_succ]
        refine wpAnyH_take (i := 5) (oi := ⟨_, _, _, _, _, _⟩) (v := ?v_29) rfl (by kernel_rfl) (by kernel_rfl) (by kernel_rfl) (fun _ _ _ h => h) (Or.inl ⟨by rfl, ?hy_29⟩) (by assumption) ?r_29
        case hy_29 => (intro w_ hS_; (try dsimp only at hS_); go_simp; try with_reducible rfl)
        try simp only [Act.put, List.setIfInBounds_toArray, List.set_cons_zero, List.set_cons_succ]
        refine wpAnyH_take (i := 6) (oi := ⟨_, _, _, _, _, _⟩) (v := ?v_30) rfl (by kernel_rfl) (by kernel_rfl) (by kernel_rfl) (fun _ _ _ h => h) (Or.inl ⟨by rfl, ?hy_30⟩) (by assumption) ?r_30
        case hy_30 => (intro w_ hS_; (try dsimp only at hS_); go_simp; try with_reducible rfl)
        try simp only [Act.put, List.setIfInBounds_toArray, List.set_cons_zero, List.set_cons_succ]
        refine wpAnyH_take (i := 7) (oi := ⟨_, _, _, _, _, _⟩) (v := ?v_31) rfl (by kernel_rfl) (by kernel_rfl) (by kernel_rfl) (fun _ _ _ h => h) (Or.inl ⟨by rfl, ?hy_31⟩) (by assumption) ?r_31
        case hy_31 => (intro w_ hS_; (try dsimp only at hS_); go_simp; try with_reducible rfl)
        try simp only [Act.put, List.setIfInBounds_toArray, List.set_cons_zero, List.set_cons_succ]
        refine wpAnyH_take (i := 8) (oi := ⟨_, _, _, _, _, _⟩) (v := ?v_32) rfl (by kernel_rfl) (by kernel_rfl) (by kernel_rfl) (fun _ _ _ h => h) (Or.inl ⟨by rfl, ?hy_32⟩) (by assumption) ?r_32
        case hy_32 => (intro w_ hS_; (try dsimp only at hS_); go_simp; try with_reducible rfl)
        try simp only [Act.put, List.setIfInBounds_toArray, List.set_cons_zero, List.set_cons_succ]
        refine wpAnyH_take (i := 9) (oi := ⟨_, _, _, _, _, _⟩) (v := ?v_33) rfl (by kernel_rfl) (by kernel_rfl) (by kernel_rfl) (fun _ _ _ h => h) (Or.inl ⟨by rfl, ?hy_33⟩) (by assumption) ?r_33
        case hy_33 => (intro w_ hS_; (try dsimp only at hS_); go_simp; try with_reducible rfl)
        try simp only [Act.put, List.setIfInBounds_toArray, List.set_cons_zero, List.set_cons_succ]
        refine wpAnyH_take (i := 10) (oi := ⟨_, _, _, _, _, _⟩) (v := ?v_34) rfl (by kernel_rfl) (by kernel_rfl) (by kernel_rfl) (fun _ _ _ h => h) (Or.inl ⟨by rfl, ?hy_34⟩) (by assumption) ?r_34
        case hy_34 => (intro w_ hS_; (try dsimp only at hS_); go_simp; try with_reducible rfl)
        try simp only [Act.put, List.setIfInBounds_toArray, List.set_cons_zero, List.set_cons_succ]
        refine wpAnyH_take (i := 11) (oi := ⟨_, _, _, _, _, _⟩) (v := ?v_35) rfl (by kernel_rfl) (by kernel_rfl) (by kernel_rfl) (fun _ _ _ h => h) (Or.inl ⟨by rfl, ?hy_35⟩) (by assumption) ?r_35
        case hy_35 => (intro w_ hS_; (try dsimp only at hS_); go_simp; try with_reducible rfl)
        try simp only [Act.put, List.setIfInBounds_toArray, List.set_cons_zero, List.set_cons_succ]
        refine wpAnyH_take (i := 12) (oi := ⟨_, _, _, _, _, _⟩) (v := ?v_36) rfl (by kernel_rfl) (by kernel_rfl) (by kernel_rfl) (fun _ _ _ h => h) (Or.inl ⟨by rfl, ?hy_36⟩) (by assumption) ?r_36
        case hy_36 => (intro w_ hS_; (try dsimp only at hS_); go_simp; try with_reducible rfl)
        try simp only [Act.put, List.setIfInBounds_toArray, List.set_cons_zero, List.set_cons_succ]
        refine wpAnyH_take (i := 13) (oi := ⟨_, _, _, _, _, _⟩) (v := ?v_37) rfl (by kernel_rfl) (by kernel_rfl) (by kernel_rfl) (fun _ _ _ h => h) (Or.inl ⟨by rfl, ?hy_37⟩) (by assumption) ?r_37
        case hy_37 => (intro w_ hS_; (try dsimp only at hS_); go_simp; try with_reducible rfl)
        try simp only [Act.put, List.setIfInBounds_toArray, List.set_cons_zero, List.set_cons_succ]
        refine wpAnyH_take (i := 14) (oi := ⟨_, _, _, _, _, _⟩) (v := ?v_38) rfl (by kernel_rfl) (by kernel_rfl) (by kernel_rfl) (fun _ _ _ h => h) (Or.inl ⟨by rfl, ?hy_38⟩) (by assumption) ?r_38
        case hy_38 => (intro w_ hS_; (try dsimp only at hS_); go_simp; try with_reducible rfl)
        try simp only [Act.put, List.setIfInBounds_toArray, List.set_cons_zero, List.set_cons_succ]
        refine wpAnyH_take (i := 15) (oi := ⟨_, _, _, _, _, _⟩) (v := ?v_39) rfl (by kernel_rfl) (by kernel_rfl) (by kernel_rfl) (fun _ _ _ h => h) (Or.inl ⟨by rfl, ?hy_39⟩) (by assumption) ?r_39
        case hy_39 => (intro w_ hS_; (try dsimp only at hS_); go_simp; try with_reducible rfl)
        try simp only [Act.put, List.setIfInBounds_toArray, List.set_cons_zero, List.set_cons_succ]
        refine wpAnyH_take (i := 16) (oi := ⟨_, _, _, _, _, _⟩) (v := ?v_40) rfl (by kernel_rfl) (by kernel_rfl) (by kernel_rfl) (fun _ _ _ h => h) (Or.inl ⟨by rfl, ?hy_40⟩) (by assumption) ?r_40
        case hy_40 => (intro w_ hS_; (try dsimp only at hS_); go_simp; try with_reducible rfl)
        try simp only [Act.put, List.setIfInBounds_toArray, List.set_cons_zero, List.set_cons_succ]
        refine wpAnyH_take (i := 17) (oi := ⟨_, _, _, _, _, _⟩) (v := ?v_41) rfl (by kernel_rfl) (by kernel_rfl) (by kernel_rfl) (fun _ _ _ h => h) (Or.inl ⟨by rfl, ?hy_41⟩) (by assumption) ?r_41
        case hy_41 => (intro w_ hS_; (try dsimp only at hS_); go_simp; try with_reducible rfl)
        try simp only [Act.put, List.setIfInBounds_toArray, List.set_cons_zero, List.set_cons_succ]
        refine wpAnyH_take (i := 18) (oi := ⟨_, _, _, _, _, _⟩) (v := ?v_42) rfl (by kernel_rfl) (by kernel_rfl) (by kernel_rfl) (fun _ _ _ h => h) (Or.inl ⟨by rfl, ?hy_42⟩) (by assumption) ?r_42
        case hy_42 => (intro w_ hS_; (try dsimp only at hS_); go_simp; try with_reducible rfl)
        try simp only [Act.put, List.setIfInBounds_toArray, List.set_cons_zero, List.set_cons_succ]
        refine wpAnyH_take (i := 19) (oi := ⟨_, _, _, _, _, _⟩) (v := ?v_43) rfl (by kernel_rfl) (by kernel_rfl) (by kernel_rfl) (fun _ _ _ h => h) (Or.inl ⟨by rfl, ?hy_43⟩) (by assumption) ?r_43
        case hy_43 => (intro w_ hS_; (try dsimp only at hS_); go_simp; try with_reducible rfl)
        try simp only [Act.put, List.setIfInBounds_toArray, List.set_cons_zero, List.set_cons_succ]
        refine wpAnyH_take (i := 20) (oi := ⟨_, _, _, _, _, _⟩) (v := ?v_44) rfl (by kernel_rfl) (by kernel_rfl) (by kernel_rfl) (fun _ _ _ h => h) (Or.inl ⟨by rfl, ?hy_44⟩) (by assumption) ?r_44
        case hy_44 => (intro w_ hS_; (try dsimp only at hS_); go_simp; try with_reducible rfl)
        try simp only [Act.put, List.setIfInBounds_toArray, List.set_cons_zero, List.set_cons_succ]
        refine wpAnyH_take (i := 21) (oi := ⟨_, _, _, _, _, _⟩) (v := ?v_45) rfl (by kernel_rfl) (by kernel_rfl) (by kernel_rfl) (fun _ _ _ h => h) (Or.inl ⟨by rfl, ?hy_45⟩) (by assumption) ?r_45
        case hy_45 => (intro w_ hS_; (try dsimp only at hS_); go_simp; try with_reducible rfl)
        try simp only [Act.put, List.setIfInBounds_toArray, List.set_cons_zero, List.set_cons_succ]
        refine wpAnyH_ready (rs := [22]) (by kernel_rfl) (by simp) ?_
        refine AllReadyH.cons (o := ⟨_, _, _, _, _, _⟩) rfl (fun K hK => ?_) AllReadyH.nil
        go_simp
        ((rw [hF]; refine Calls.mono hcall ?_; rintro e w7 ⟨rfl, hk7, hj7⟩; dsimp only))
        try go_wp2_with (fail)
        refine hK.out _ _ ?_ (fun hHeld => ?_)
        · (try dsimp only); (first | assumption | exact ⟨d0, d1, d2⟩ | exact hS _ (by assumption))
        clear hK K
        try simp only [Act.put, List.setIfInBounds_toArray, List.set_cons_zero, List.set_cons_succ]
        refine wpAnyH_take (i := 23) (oi := ⟨_, _, _, _, _, _⟩) (v := ?v_46) rfl (by kernel_rfl) (by kernel_rfl) (by kernel_rfl) (fun _ _ _ h => h) (Or.inl ⟨by rfl, ?hy_46⟩) (by assumption) ?r_46
        case hy_46 => (intro w_ hS_; (try dsimp only at hS_); go_simp; try with_reducible rfl)
        try simp only [Act.put, List.setIfInBounds_toArray, List.set_cons_zero, List.set_cons_succ]
        refine wpAnyH_done (by kernel_rfl) ?_ _
        have hr7 := hr.drew.kb hk7 hR hA
        have hk8 := Lib.hid ((hkb.drew.trans (hk7.mono (fun b hb => Or.inr hb))))
        have e0 := hr7.c0
        have e1 := hr7.c1
        obtain ⟨A', c', s1, s2, s3⟩ := str_of_runes hr7 hik hmn
        have s4 : ∀ q, (convert 152 9 (.slice A' (k - i) c')).run Tryz.prog (w7.drewN q) = .ok (.string (strR ((rs.drop i).take (k - i)))) (w7.drewN q) := fun q => s3 _ (fun _ _ _ => rfl)
        have hj9 : J k w7 := by simpa using hj7
        clear s3
        go_upto_region 4 with (fail)
        go_quiet (fail)
        go_wp2
        go_ret
        exact ⟨rfl, hr7.drewN _, hJ _ _ _ hj9 (fun _ _ => rfl), hk8.out.drewN _⟩
    · have hkm2 : k = m := by omega
      subst hkm2
      have hlt : decide ((k : Int) < (n : Int)) = false := by simp; omega
      have hlt2 : decide (k < n) = false := by simp; omega
      obtain ⟨A', c', s1, s2, s3⟩ := str_of_runes hr hik hmn
      have s4 : ∀ q, (convert 152 9 (.slice A' (k - i) c')).run Tryz.prog (wr.drewN q) = .ok (.string (strR ((rs.drop i).take (k - i)))) (wr.drewN q) := fun q => s3 _ (fun _ _ _ => rfl)
      clear s3
      go_upto_region 2 with (fail)
      go_quiet (fail)
      go_upto_region 4 with (fail)
      go_quiet (fail)
      go_wp2
      go_ret
      exact ⟨rfl, (hr.drewN _).drewN _, hJ _ _ _ hjk (fun _ _ => rfl), (hkb.drewN _).drewN _⟩
def hasC (cs : List Int) (r : Nat) : Bool := cs.contains (classV r)
theorem of_any (A : Option Addr) (n c : Nat) (w : World) :
    Calls Tryz.prog 110 #[.slice A n c] w fun e w' => e = .returned (.func (.func 115) #[] #[.pointer (some ⟨w.heap.size, 0, none⟩)]) ∧ w' = w.alloc (.cells #[.slice A n c] 38) := by
  have hmf : ∀ (fn : Fn) (first cap : Array Value) (w : World), (Instr.makeFunc fn first cap).run Tryz.prog w = .ok (.func fn first cap) w := fun _ _ _ _ => rfl
  go_enter Tryz.func110, Tryz.ntmps110
  go_wp2
  go_ret
  exact ⟨rfl, rfl⟩
theorem hasC_at {cs : List Int} {r : Nat} {k : Nat} {x : Int} (hx : cs[k]? = some x) (h : classV r = x) : hasC cs r = true := by
  unfold hasC; rw [List.contains_iff_mem, h]; exact List.mem_of_getElem? hx
set_option maxHeartbeats 1000000 in
theorem of1_any (r : Nat) (C g n c : Nat) (cs : List Int) (w : World) (hC : w.cell? ⟨C, 0, none⟩ = some (.slice (some ⟨g, 0, none⟩) n c)) (hn : cs.length = n) (hm : n ≤ 100)
    (hcs : ∀ (j : Nat) (x : Int), cs[j]? = some x → w.cell? ⟨g, j, none⟩ = some (.int .i64 x)) :
    Calls Tryz.prog 115 #[.int .i32 (r : Int), .pointer (some ⟨C, 0, none⟩)] w fun e w' => e = .returned (.bool (hasC cs r)) ∧ w = w' := by
  obtain ⟨q, hq⟩ : ∃ q, Hid (classV r = q) := ⟨_, rfl⟩
  have hcs2 := Lib.hid hcs
  clear hcs
  go_enter Tryz.func115, Tryz.ntmps115
  go_wp2_with fail
  go_loopw [8] (fun i wr => ∃ k : Nat, k ≤ n ∧ i = .int .i64 k ∧ wr = w ∧ Hid (∀ j x, j < k → cs[j]? = some x → classV r ≠ x)) (fun i _ => n - (intOf i).toNat)
  case atStart => exact ⟨0, Nat.zero_le _, rfl, rfl, fun j x hj => absurd hj (by omega)⟩
  case round =>
    obtain ⟨k, hk, rfl, rfl, HN⟩ := hrel
    by_cases hkn : k < n
    · obtain ⟨x, hx⟩ : ∃ x, Hid (cs[k]? = some x) := ⟨_, List.getElem?_eq_getElem (by rw [hn]; exact hkn)⟩
      have hc1 := hcs2.out k x hx.out
      have hlt : (k : Int) < (n : Int) := by omega
      by_cases he : classV r = x
      · have hT := Lib.hid (hasC_at hx.out he)
        have he2 : (q == x) = true := by rw [← hq.out]; simpa using he
        clear he
        go_wp2_with (go_at_call 103; refine (class_any _ _).mono ?_; rintro e w' ⟨rfl, rfl⟩; rw [hq.out])
        go_ret
        exact ⟨ret_bool hT.out.symm, rfl⟩
      · have he2 : (q == x) = false := by rw [← hq.out]; simpa using he
        have HN2 : Hid (∀ j y, j < k + 1 → cs[j]? = some y → classV r ≠ y) := fun j y hj hy => by
          rcases Nat.lt_or_ge j k with h | h
          · exact HN.out j y h hy
          · have : j = k := by omega
            subst this
            rw [hx.out] at hy
            injection hy with hy
            rw [← hy]; exact he
        clear HN he
        go_wp2_with (go_at_call 103; refine (class_any _ _).mono ?_; rintro e w' ⟨rfl, rfl⟩; rw [hq.out])
        go_roundw
        case rel => exact ⟨k + 1, by omega, by go_num, by trivial, HN2⟩
        case measure => simp [intOf]; omega
    · have hF : Hid (hasC cs r = false) := by
        show hasC cs r = false
        unfold hasC
        rw [Bool.eq_false_iff]
        intro h
        rw [List.contains_iff_mem] at h
        obtain ⟨j, hj⟩ := List.mem_iff_getElem?.1 h
        have hjl := (List.getElem?_eq_some_iff.1 hj).1
        exact HN.out j _ (by omega) hj rfl
      go_wp2
      go_ret
      exact ⟨ret_bool hF.out.symm, rfl⟩
def smallR (r : Nat) : Bool := (decide (48 ≤ r) && decide (r ≤ 57)) || (decide (97 ≤ r) && decide (r ≤ 122))
theorem count1_any (r : Nat) (w : World) :
    Calls Tryz.prog 127 #[.int .i32 (r : Int)] w fun e w' => e = .returned (.bool (smallR r)) ∧ w = w' := by
  rcases (by omega : r < 48 ∨ (48 ≤ r ∧ r ≤ 57) ∨ (57 < r ∧ r < 97) ∨ (97 ≤ r ∧ r ≤ 122) ∨ 122 < r) with h | h | h | h | h
  all_goals
    have hs : Hid (smallR r = if 48 ≤ r ∧ r ≤ 57 ∨ 97 ≤ r ∧ r ≤ 122 then true else false) := by
      show smallR r = _
      unfold smallR
      split <;> simp <;> omega
    first
    | (have h1 : (48 : Int) ≤ r := by omega)
    | skip
    first
    | (have h2 : (r : Int) ≤ 57 := by omega)
    | (have h2 : (57 : Int) < r := by omega)
    first
    | (have h3 : (97 : Int) ≤ r := by omega)
    | (have h3 : (r : Int) < 97 := by omega)
    first
    | (have h4 : (r : Int) ≤ 122 := by omega)
    | (have h4 : (122 : Int) < r := by omega)
    go_enter Tryz.func127, Tryz.ntmps127
    go_wp2
    go_ret
    refine ⟨ret_bool ?_, rfl⟩
    rw [hs.out]
    first | (rw [if_pos (by omega)]) | (rw [if_neg (by omega)])
    try (simp <;> omega)
def wordR (r : Nat) : Bool := hasC [2, 3] r || (r == 45) || (r == 95)
theorem word1_any (r : Nat) (I C g c : Nat) (w : World) (hI : w.cell? ⟨I, 0, none⟩ = some (.func (.func 115) #[] #[.pointer (some ⟨C, 0, none⟩)])) (hC : w.cell? ⟨C, 0, none⟩ = some (.slice (some ⟨g, 0, none⟩) 2 c))
    (h0 : w.cell? ⟨g, 0, none⟩ = some (.int .i64 2)) (h1 : w.cell? ⟨g, 1, none⟩ = some (.int .i64 3)) :
    Calls Tryz.prog 125 #[.int .i32 (r : Int), .pointer (some ⟨I, 0, none⟩)] w fun e w' => e = .returned (.bool (wordR r)) ∧ w = w' := by
  obtain ⟨b, hb⟩ : ∃ b, Hid (hasC [2, 3] r = b) := ⟨_, rfl⟩
  have hcs : Hid (∀ (j : Nat) (x : Int), [2, 3][j]? = some x → w.cell? ⟨g, j, none⟩ = some (.int .i64 x)) := by
    intro j x hx
    rcases j with _ | _ | j
    · simp at hx; subst hx; exact h0
    · simp at hx; subst hx; exact h1
    · simp at hx
  have hc := of1_any r C g 2 c [2, 3] w hC rfl (by omega) hcs.out
  rw [hb.out] at hc
  have hc2 := Lib.hid hc
  have hw : Hid (wordR r = (b || (r == 45) || (r == 95))) := by show wordR r = _; unfold wordR; rw [hb.out]
  clear hcs hC h0 h1 hc
  cases b with
  | true =>
    go_enter Tryz.func125, Tryz.ntmps125
    go_wp2_with (go_at_call 115; refine hc2.out.mono ?_; rintro e w' ⟨rfl, rfl⟩)
    go_ret
    exact ⟨ret_bool (by rw [hw.out]; simp), rfl⟩
  | false =>
    have key : (r = 45) ∨ (r ≠ 45 ∧ r = 95) ∨ (r ≠ 45 ∧ r ≠ 95) := by omega
    rcases key with h | ⟨h, h'⟩ | ⟨h, h'⟩
    · have t1 : ((r : Int) == 45) = true := by simp; omega
      have hw2 : Hid (wordR r = true) := by show _ = _; rw [hw.out, h]; rfl
      clear h
      go_enter Tryz.func125, Tryz.ntmps125
      go_wp2_with (go_at_call 115; refine hc2.out.mono ?_; rintro e w' ⟨rfl, rfl⟩)
      go_ret
      exact ⟨ret_bool (by rw [hw2.out]), rfl⟩
    · have t1 : ((r : Int) == 45) = false := by simp; omega
      have t2 : ((r : Int) == 95) = true := by simp; omega
      have hw2 : Hid (wordR r = true) := by show _ = _; rw [hw.out, h']; rfl
      clear h h'
      go_enter Tryz.func125, Tryz.ntmps125
      go_wp2_with (go_at_call 115; refine hc2.out.mono ?_; rintro e w' ⟨rfl, rfl⟩)
      go_ret
      exact ⟨ret_bool (by rw [hw2.out]), rfl⟩
    · have t1 : ((r : Int) == 45) = false := by simp; omega
      have t2 : ((r : Int) == 95) = false := by simp; omega
      have hw2 : Hid (wordR r = false) := by show _ = _; rw [hw.out]; simp [h, h']
      clear h h'
      go_enter Tryz.func125, Tryz.ntmps125
      go_wp2_with (go_at_call 115; refine hc2.out.mono ?_; rintro e w' ⟨rfl, rfl⟩)
      go_ret
      exact ⟨ret_bool (by rw [hw2.out]), rfl⟩
/-- may a rune stand here in a quoted text? -/
def textR (held : Bool) (r : Nat) : Bool := !(badR r || ((r == 34) && !held))
def heldR (held : Bool) (r : Nat) : Bool := (r == 92) && !held
theorem text1_no (r : Nat) (held : Bool) (I : Nat) (w : World) (hI : w.heap[I]? = some (.cells #[.bool held] 4 (0, 0))) (hx : textR held r = false) :
    Calls Tryz.prog 130 #[.int .i32 (r : Int), .pointer (some ⟨I, 0, none⟩)] w fun e w' => e = .returned (.bool false) ∧ w = w' := by
  have c0 := cell_of_one hI
  obtain ⟨q, hq⟩ : ∃ q, Hid (classV r = q) := ⟨_, rfl⟩
  clear hI
  by_cases hb : q = 0
  · have hb2 : (q == 0) = true := by simpa using hb
    clear hb
    go_enter Tryz.func130, Tryz.ntmps130
    go_wp2_with (go_at_call 103; refine (class_any _ _).mono ?_; rintro e w' ⟨rfl, rfl⟩; rw [hq.out])
    go_ret
    exact ⟨rfl, rfl⟩
  · have hb2 : (q == 0) = false := by simpa using hb
    have hb3 : badR r = false := by unfold badR; rw [hq.out]; exact hb2
    unfold textR at hx
    rw [hb3] at hx
    simp at hx
    obtain ⟨h1, rfl⟩ := hx
    have t1 : ((r : Int) == 34) = true := by simp; omega
    clear h1 hb hb3
    go_enter Tryz.func130, Tryz.ntmps130
    go_wp2_with (go_at_call 103; refine (class_any _ _).mono ?_; rintro e w' ⟨rfl, rfl⟩; rw [hq.out])
    go_ret
    exact ⟨rfl, rfl⟩
theorem text1_yes (r : Nat) (held : Bool) (I : Nat) (w : World) (hI : w.heap[I]? = some (.cells #[.bool held] 4 (0, 0))) (hx : textR held r = true) :
    Calls Tryz.prog 130 #[.int .i32 (r : Int), .pointer (some ⟨I, 0, none⟩)] w fun e w' => e = .returned (.bool true) ∧ w' = w.setCell ⟨I, 0, none⟩ (.bool (heldR held r)) := by
  have c0 := cell_of_one hI
  have f0 := free_of_one hI
  obtain ⟨q, hq⟩ : ∃ q, Hid (classV r = q) := ⟨_, rfl⟩
  clear hI
  unfold textR at hx
  simp at hx
  obtain ⟨hb, hx⟩ := hx
  have hb2 : (q == 0) = false := by rw [← hq.out]; exact hb
  clear hb
  have HH : Hid (heldR held r = ((r == 92) && !held)) := rfl
  by_cases h34 : r = 34
  · have t1 : ((r : Int) == 34) = true := by simp; omega
    have t2 : ((r : Int) == 92) = false := by simp; omega
    have hh : held = true := hx.resolve_left (fun h => h h34)
    subst hh
    have HH2 : Hid (heldR true r = false) := by show _ = _; rw [HH.out]; simp
    clear hx h34
    go_enter Tryz.func130, Tryz.ntmps130
    go_wp2_with (go_at_call 103; refine (class_any _ _).mono ?_; rintro e w' ⟨rfl, rfl⟩; rw [hq.out])
    go_ret
    exact ⟨rfl, by rw [HH2.out]⟩
  · have t1 : ((r : Int) == 34) = false := by simp; omega
    by_cases h92 : r = 92
    · have t2 : ((r : Int) == 92) = true := by simp; omega
      have HH2 : Hid (heldR held r = !held) := by show _ = _; rw [HH.out, h92]; rfl
      clear hx h34 h92
      cases held
      all_goals
        go_enter Tryz.func130, Tryz.ntmps130
        go_wp2_with (go_at_call 103; refine (class_any _ _).mono ?_; rintro e w' ⟨rfl, rfl⟩; rw [hq.out])
        go_ret
        exact ⟨rfl, by rw [HH2.out]; rfl⟩
    · have t2 : ((r : Int) == 92) = false := by simp; omega
      have HH2 : Hid (heldR held r = false) := by show _ = _; rw [HH.out]; simp [h92]
      clear hx h34 h92
      go_enter Tryz.func130, Tryz.ntmps130
      go_wp2_with (go_at_call 103; refine (class_any _ _).mono ?_; rintro e w' ⟨rfl, rfl⟩; rw [hq.out])
      go_ret
      exact ⟨rfl, by rw [HH2.out]⟩
/-- a token -/
structure Tk where
  kind : Int
  text : ByteArray
  num : Int
  at_ : Int
def tkC (t : Tk) : List Value := [.int .i64 t.kind, .string t.text, .int .i64 t.num, .int .i64 t.at_]
def tkV (t : Tk) : Value := .agg #[.int .i64 t.kind, .string t.text, .int .i64 t.num, .int .i64 t.at_]
theorem tkC_len (t : Tk) : (tkC t).length = 4 := rfl
def spanN (p : Nat → Bool) (l : List Nat) : Nat := (l.takeWhile p).length
theorem span_le (p : Nat → Bool) (l : List Nat) : spanN p l ≤ l.length := (List.takeWhile_sublist _).length_le
theorem span_cons (p : Nat → Bool) (b : Nat) (t : List Nat) : spanN p (b :: t) = if p b then spanN p t + 1 else 0 := by
  unfold spanN; rw [List.takeWhile_cons]; split <;> simp
theorem span_in {p : Nat → Bool} : ∀ {l : List Nat} {k x : Nat}, k < spanN p l → l[k]? = some x → p x = true
  | [], k, x, h, _ => by simp [spanN] at h
  | y :: t, 0, x, h, hx => by
    simp at hx; subst hx
    rw [span_cons] at h
    split at h
    · assumption
    · omega
  | y :: t, k + 1, x, h, hx => by
    rw [span_cons] at h
    split at h
    · exact span_in (l := t) (k := k) (by omega) (by simpa using hx)
    · omega
theorem span_stop {p : Nat → Bool} : ∀ {l : List Nat} {x : Nat}, l[spanN p l]? = some x → p x = false
  | [], x, h => by simp at h
  | y :: t, x, h => by
    rw [span_cons] at h
    split at h
    · exact span_stop (l := t) (by simpa using h)
    · rename_i hy
      simp at h; subst h; simpa using hy
/-- if all runes ahead of a place are so, and the one there is not -/
theorem span_is {p : Nat → Bool} : ∀ {l : List Nat} {k : Nat}, k ≤ l.length → (∀ j x, j < k → l[j]? = some x → p x = true) → (∀ x, l[k]? = some x → p x = false) → spanN p l = k
  | [], k, hk, _, _ => by simp at hk; subst hk; rfl
  | y :: t, 0, _, _, h2 => by rw [span_cons, h2 y (by simp)]; rfl
  | y :: t, k + 1, hk, h1, h2 => by
    rw [span_cons, h1 0 y (by omega) (by simp)]
    simp only [if_true]
    rw [span_is (l := t) (k := k) (by simpa using hk) (fun j x hj hx => h1 (j + 1) x (by omega) (by simpa using hx)) (fun x hx => h2 x (by simpa using hx))]
def scan : Bool → List Nat → Nat
  | _, [] => 0
  | h, x :: t => if textR h x then scan (heldR h x) t + 1 else 0
def heldN : Bool → List Nat → Nat → Bool
  | h, _, 0 => h
  | h, [], _ + 1 => h
  | h, x :: t, k + 1 => heldN (heldR h x) t k
theorem heldN_succ : ∀ {h : Bool} {l : List Nat} {k x : Nat}, l[k]? = some x → heldN h l (k + 1) = heldR (heldN h l k) x
  | h, [], k, x, hx => by simp at hx
  | h, y :: t, 0, x, hx => by
    simp at hx; subst hx
    cases t <;> rfl
  | h, y :: t, k + 1, x, hx => by
    show heldN (heldR h y) t (k + 1) = _
    rw [heldN_succ (by simpa using hx)]
    rfl
theorem scan_le : ∀ (h : Bool) (l : List Nat), scan h l ≤ l.length
  | h, [] => by simp [scan]
  | h, y :: t => by
    unfold scan
    split
    · have := scan_le (heldR h y) t
      simp; omega
    · simp
theorem scan_mid : ∀ {h : Bool} {l : List Nat} {k x : Nat}, k < scan h l → l[k]? = some x → textR (heldN h l k) x = true
  | h, [], k, x, hk, _ => by simp [scan] at hk
  | h, y :: t, 0, x, hk, hx => by
    simp at hx; subst hx
    unfold scan at hk
    split at hk
    · assumption
    · omega
  | h, y :: t, k + 1, x, hk, hx => by
    unfold scan at hk
    split at hk
    · exact scan_mid (h := heldR h y) (l := t) (k := k) (by omega) (by simpa using hx)
    · omega
theorem scan_stop : ∀ {h : Bool} {l : List Nat} {x : Nat}, l[scan h l]? = some x → textR (heldN h l (scan h l)) x = false
  | h, [], x, hx => by simp at hx
  | h, y :: t, x, hx => by
    unfold scan at hx ⊢
    split at hx
    · rename_i hy
      rw [if_pos hy]
      exact scan_stop (h := heldR h y) (l := t) (by simpa using hx)
    · rename_i hy
      rw [if_neg hy]
      simp at hx; subst hx
      show textR h y = false
      simpa using hy
def cutR (rs : List Nat) (i m : Nat) : List Nat := (rs.drop i).take (m - i)
def digR (r : Nat) : Bool := decide (48 ≤ r) && decide (r ≤ 57)
def valR (l : List Nat) : Nat := l.foldl (fun a r => a * 10 + (r - 48)) 0
def numOk (l : List Nat) : Bool := decide (l.length ≤ 9) && !(decide (1 < l.length) && (l.headD 0 == 48))
def lowT (l : List Nat) : ByteArray := ⟨((bl (strR l)).map lowB).toArray⟩
def blankR (r : Nat) : Bool := hasC [1] r
/-- where the token ends that begins with a rune, were it a word, a number, a text -/
def endW (rs : List Nat) (i : Nat) : Nat := i + spanN wordR (rs.drop i)
def endD (rs : List Nat) (i : Nat) : Nat := i + spanN smallR (rs.drop i)
def endT (rs : List Nat) (i : Nat) : Nat := i + scan true (rs.drop i)
def skipR (rs : List Nat) (i : Nat) : Nat := i + spanN blankR (rs.drop i)
def countP (rs : List Nat) (i : Nat) : (Tk × Nat) ⊕ (Nat × Int) :=
  if (cutR rs i (endD rs i)).all digR then (if numOk (cutR rs i (endD rs i)) then .inl (⟨2, ⟨#[]⟩, (valR (cutR rs i (endD rs i)) : Int), i⟩, endD rs i) else .inr (i, 50))
  else .inl (⟨3, strR (cutR rs i (endD rs i)), 0, i⟩, endD rs i)
def textP (rs : List Nat) (i : Nat) : (Tk × Nat) ⊕ (Nat × Int) :=
  if endT rs i = rs.length then .inr (i, 50)
  else if rs.getD (endT rs i) 0 ≠ 34 then .inr (endT rs i, 40)
  else if (unqV (bl (strR (cutR rs i (endT rs i + 1))))).isSome then .inl (⟨4, ⟨(unqT (bl (strR (cutR rs i (endT rs i + 1))))).toArray⟩, 0, i⟩, endT rs i + 1) else .inr (i, 50)
/-- the token that begins at a place, and the place behind it; or the place that is wrong, and the error -/
def nextP (rs : List Nat) (i : Nat) : (Tk × Nat) ⊕ (Nat × Int) :=
  if classV (rs.getD i 0) = 2 then .inl (⟨1, lowT (cutR rs i (endW rs i)), 0, i⟩, endW rs i)
  else if classV (rs.getD i 0) = 3 then countP rs i
  else if rs.getD i 0 = 34 then textP rs i
  else if rs.getD i 0 = 61 ∨ rs.getD i 0 = 58 ∨ rs.getD i 0 = 44 ∨ rs.getD i 0 = 45 then .inl (⟨5, strR [rs.getD i 0], 0, i⟩, i + 1)
  else if classV (rs.getD i 0) = 0 then .inr (i, 40) else .inr (i, 50)
/-- the tokens from a place on, behind some others -/
def lexF : Nat → List Nat → Nat → List Tk → List Tk ⊕ (Nat × Int)
  | 0, _, _, acc => .inl acc
  | f + 1, rs, i, acc => if skipR rs i = rs.length then .inl acc else
    match nextP rs (skipR rs i) with
    | .inl (t, m) => lexF f rs m (acc ++ [t])
    | .inr e => .inr e
def lexP (rs : List Nat) : List Tk ⊕ (Nat × Int) := lexF (rs.length + 1) rs 0 []
theorem bl_strR (l : List Nat) : bl (strR l) = l.flatMap enc := by simp [strR, bl]
theorem cutR_at {rs : List Nat} {i m k : Nat} (hk : k < m - i) : (cutR rs i m)[k]? = rs[i + k]? := by
  unfold cutR; rw [List.getElem?_take, if_pos hk, List.getElem?_drop]
theorem cutR_len {rs : List Nat} {i m : Nat} (h : m ≤ rs.length) : (cutR rs i m).length = m - i := by unfold cutR; simp; omega
theorem cutR_mem {rs : List Nat} {i m x : Nat} (h : x ∈ cutR rs i m) : ∃ k, i ≤ k ∧ k < m ∧ rs[k]? = some x := by
  obtain ⟨k, hk⟩ := List.mem_iff_getElem?.1 h
  have hl := (List.getElem?_eq_some_iff.1 hk).1
  have hl2 : k < m - i := by unfold cutR at hl; simp at hl; omega
  rw [cutR_at hl2] at hk
  exact ⟨i + k, by omega, by omega, hk⟩
theorem drop_get {rs : List Nat} {i k x : Nat} (hik : i ≤ k) (h : rs[k]? = some x) : (rs.drop i)[k - i]? = some x := by rw [List.getElem?_drop, show i + (k - i) = k by omega]; exact h
theorem getD_of {rs : List Nat} {i x : Nat} (h : rs[i]? = some x) : rs.getD i 0 = x := by simp [List.getD, h]
section
variable {p : Nat → Bool} {rs : List Nat} {i : Nat}
theorem spanI_le (hi : i ≤ rs.length) : i + spanN p (rs.drop i) ≤ rs.length := by have := span_le p (rs.drop i); simp at this; omega
theorem spanI_in {k x : Nat} (h1 : i ≤ k) (h2 : k < i + spanN p (rs.drop i)) (hx : rs[k]? = some x) : p x = true := span_in (l := rs.drop i) (k := k - i) (by omega) (drop_get h1 hx)
theorem spanI_stop {x : Nat} (hx : rs[i + spanN p (rs.drop i)]? = some x) : p x = false := span_stop (l := rs.drop i) (by rw [List.getElem?_drop]; exact hx)
theorem spanI_is {k : Nat} (h1 : i ≤ k) (h2 : k ≤ rs.length) (h3 : ∀ j x, i ≤ j → j < k → rs[j]? = some x → p x = true) (h4 : ∀ x, rs[k]? = some x → p x = false) : i + spanN p (rs.drop i) = k := by
  rw [span_is (p := p) (l := rs.drop i) (k := k - i) (by simp; omega) (fun j x hj hx => h3 (i + j) x (by omega) (by omega) (by rw [List.getElem?_drop] at hx; exact hx)) (fun x hx => h4 x (by rw [List.getElem?_drop, show i + (k - i) = k by omega] at hx; exact hx))]
  omega
theorem spanI_pos {x : Nat} (hx : rs[i]? = some x) (hp : p x = true) : i < i + spanN p (rs.drop i) := by
  rcases Nat.eq_zero_or_pos (spanN p (rs.drop i)) with h | h
  · have := spanI_stop (p := p) (i := i) (rs := rs) (x := x) (by rw [h]; exact hx)
    rw [hp] at this; cases this
  · omega
theorem endT_le (hi : i ≤ rs.length) : endT rs i ≤ rs.length := by unfold endT; have := scan_le true (rs.drop i); simp at this; omega
theorem good_of_text {h : Bool} {x : Nat} (hx : textR h x = true) : badR x = false := by unfold textR at hx; simp at hx; exact hx.1
theorem endT_good {k x : Nat} (h1 : i ≤ k) (h2 : k < endT rs i) (hx : rs[k]? = some x) : badR x = false :=
  good_of_text (scan_mid (h := true) (l := rs.drop i) (k := k - i) (by unfold endT at h2; omega) (drop_get h1 hx))
end
theorem letter_word {x : Nat} (h : classV x = 2) : wordR x = true := by unfold wordR hasC; rw [h]; rfl
theorem digit_iff {x : Nat} : classV x = 3 ↔ (48 ≤ x ∧ x ≤ 57) := by
  unfold classV
  repeat' split
  all_goals omega
theorem digit_small {x : Nat} (h : classV x = 3) : smallR x = true := by
  rw [digit_iff] at h
  unfold smallR; simp; omega
theorem textR_q (x : Nat) (h : x = 34) : textR true x = true := by subst h; decide
/-- a token is behind its place -/
theorem nextP_after {rs : List Nat} {i m : Nat} {t : Tk} (hi : i < rs.length) (h : nextP rs i = .inl (t, m)) : i < m ∧ m ≤ rs.length := by
  obtain ⟨x, hx⟩ : ∃ x, rs[i]? = some x := ⟨_, List.getElem?_eq_getElem hi⟩
  unfold nextP at h
  rw [getD_of hx] at h
  split at h
  · rename_i hc
    injection h with h
    injection h with _ h
    subst h
    exact ⟨spanI_pos hx (letter_word hc), spanI_le (by omega)⟩
  split at h
  · rename_i hc
    unfold countP at h
    split at h
    · split at h
      · injection h with h
        injection h with _ h
        subst h
        exact ⟨spanI_pos hx (digit_small hc), spanI_le (by omega)⟩
      · cases h
    · injection h with h
      injection h with _ h
      subst h
      exact ⟨spanI_pos hx (digit_small hc), spanI_le (by omega)⟩
  split at h
  · unfold textP at h
    split at h
    · cases h
    split at h
    · cases h
    split at h
    · injection h with h
      injection h with _ h
      subst h
      have := endT_le (rs := rs) (i := i) (by omega)
      exact ⟨by unfold endT; omega, by omega⟩
    · cases h
  split at h
  · injection h with h
    injection h with _ h
    subst h
    omega
  split at h <;> cases h
theorem skip_le {rs : List Nat} {i : Nat} (hi : i ≤ rs.length) : i ≤ skipR rs i ∧ skipR rs i ≤ rs.length := ⟨by unfold skipR; omega, spanI_le hi⟩
theorem lexF_step {f : Nat} {rs : List Nat} {i m : Nat} {acc : List Tk} {t : Tk} (h1 : skipR rs i ≠ rs.length) (h2 : nextP rs (skipR rs i) = .inl (t, m)) : lexF (f + 1) rs i acc = lexF f rs m (acc ++ [t]) := by
  rw [lexF, if_neg h1, h2]
theorem lexF_end {f : Nat} {rs : List Nat} {i : Nat} {acc : List Tk} (h1 : skipR rs i = rs.length) : lexF f rs i acc = .inl acc := by
  cases f with
  | zero => rfl
  | succ f => rw [lexF, if_pos h1]
theorem lexF_bad {f : Nat} {rs : List Nat} {i : Nat} {acc : List Tk} {e : Nat × Int} (h1 : skipR rs i ≠ rs.length) (h2 : nextP rs (skipR rs i) = .inr e) : lexF (f + 1) rs i acc = .inr e := by
  rw [lexF, if_neg h1, h2]
theorem small_good {r : Nat} (h : smallR r = true) : badR r = false := by
  unfold smallR at h; simp at h
  rcases hb : badR r with _ | _
  · rfl
  · rw [badR_iff] at hb; omega
theorem digR_iff {r : Nat} : digR r = true ↔ (48 ≤ r ∧ r ≤ 57) := by unfold digR; simp
theorem runes_small {l : List Nat} (h : ∀ r ∈ l, smallR r = true) : runes (bl (strR l)) = l := by
  rw [bl_strR]; exact runes_flat (fun r hr => small_good (h r hr))
theorem flat_small {l : List Nat} (h : ∀ r ∈ l, r < 128) : l.flatMap enc = l.map UInt8.ofNat := by
  induction l with
  | nil => rfl
  | cons r t ih =>
    rw [List.flatMap_cons, ih (fun x hx => h x (List.mem_cons_of_mem _ hx)), enc_one (h r (List.mem_cons_self)), List.map_cons]; rfl
theorem strR_size {l : List Nat} (h : ∀ r ∈ l, r < 128) : (strR l).size = l.length := by
  rw [← bl_len, bl_strR, flat_small h]; simp
theorem digits_yes (s : ByteArray) (w : World) (hs : s.size ≤ maxLen) (h : (runes (bl s)).all digR = true) (h0 : s.size ≠ 0) :
    Calls Tryz.prog 128 #[.string s] w fun e w' => e = .returned (.bool true) ∧ Below w.heap.size w w' := by
  unfold maxLen at hs
  have hrl := runes_size s
  have H := Lib.hid h
  have hne : (s.toList != []) = true := by
    simp
    intro e
    have := congrArg List.length e
    rw [Lib.toList_data] at this
    exact h0 this
  clear h h0
  go_enter Tryz.func128, Tryz.ntmps128
  go_wp2
  go_loopw [] (fun wr => ∃ k : Nat, k ≤ (runes (bl s)).length ∧ wr.heap[w.heap.size]? = some (.stringIter s (posN k (bl s))) ∧ Below w.heap.size w wr) (fun wr => (bl s).length - wr.iterPos w.heap.size)
  case atStart => exact ⟨0, Nat.zero_le _, iter_start w s, (Below.refl _ w).alloc (Nat.le_refl _) _⟩
  case round =>
    obtain ⟨k, hk, hit, hb⟩ := hrel
    have hsz : w.heap.size < wr.heap.size := (Array.getElem?_eq_some_iff.1 hit).1
    by_cases hlt : k < (runes (bl s)).length
    · obtain ⟨r, hr, hrm, hnx⟩ := next_rune wr _ s k hlt hit
      have hit2 := Lib.hid (Lib.iterAt_heap wr _ s _ (posN (k + 1) (bl s)) hit)
      have hb2 := Lib.below_iterAt hb (Nat.le_refl _) s (posN (k + 1) (bl s))
      have hd := digR_iff.1 (List.all_eq_true.1 H.out r (List.mem_of_getElem? hr.out))
      obtain ⟨hd1, hd2⟩ := hd
      have t1 : decide ((r : Int) < 48) = false := by simp; omega
      have t2 : decide ((57 : Int) < (r : Int)) = false := by simp; omega
      have hpm := pos_mono k hlt
      have hpl := pos_le (k + 1) (l := bl s) (by omega)
      have hitp := Lib.hid hit
      clear hit
      go_wp2
      go_roundw
      case rel => exact ⟨k + 1, by omega, hit2.out, hb2⟩
      case measure => simp only [World.iterPos, hit2.out, hitp.out]; omega
    · have hk2 : Hid (k = (runes (bl s)).length) := by show _ = _; omega
      have hnx := next_end wr _ s k hk2.out hit
      clear hit
      go_wp2
      go_ret
      exact ⟨ret_bool (by first | rfl | exact hne | simpa using hne), hb⟩
theorem digits_no (s : ByteArray) (w : World) (hs : s.size ≤ maxLen) (h : (runes (bl s)).all digR = false) :
    Calls Tryz.prog 128 #[.string s] w fun e w' => e = .returned (.bool false) ∧ Below w.heap.size w w' := by
  unfold maxLen at hs
  have hrl := runes_size s
  have H := Lib.hid h
  clear h
  go_enter Tryz.func128, Tryz.ntmps128
  go_wp2
  go_loopw [] (fun wr => ∃ k : Nat, k ≤ (runes (bl s)).length ∧ Hid (∀ j r, j < k → (runes (bl s))[j]? = some r → digR r = true) ∧ wr.heap[w.heap.size]? = some (.stringIter s (posN k (bl s))) ∧ Below w.heap.size w wr) (fun wr => (bl s).length - wr.iterPos w.heap.size)
  case atStart => exact ⟨0, Nat.zero_le _, fun j r hj => absurd hj (by omega), iter_start w s, (Below.refl _ w).alloc (Nat.le_refl _) _⟩
  case round =>
    obtain ⟨k, hk, HN, hit, hb⟩ := hrel
    have hsz : w.heap.size < wr.heap.size := (Array.getElem?_eq_some_iff.1 hit).1
    by_cases hlt : k < (runes (bl s)).length
    · obtain ⟨r, hr, hrm, hnx⟩ := next_rune wr _ s k hlt hit
      have hit2 := Lib.hid (Lib.iterAt_heap wr _ s _ (posN (k + 1) (bl s)) hit)
      have hb2 := Lib.below_iterAt hb (Nat.le_refl _) s (posN (k + 1) (bl s))
      have hpm := pos_mono k hlt
      have hpl := pos_le (k + 1) (l := bl s) (by omega)
      have hitp := Lib.hid hit
      clear hit
      rcases (by omega : r < 48 ∨ (48 ≤ r ∧ 57 < r) ∨ (48 ≤ r ∧ r ≤ 57)) with hd | ⟨hd1, hd2⟩ | ⟨hd1, hd2⟩
      · have t1 : decide ((r : Int) < 48) = true := by simp; omega
        clear HN hd
        go_wp2
        go_ret
        exact ⟨rfl, hb2⟩
      · have t1 : decide ((r : Int) < 48) = false := by simp; omega
        have t2 : decide ((57 : Int) < (r : Int)) = true := by simp; omega
        clear HN hd1 hd2
        go_wp2
        go_ret
        exact ⟨rfl, hb2⟩
      · have t1 : decide ((r : Int) < 48) = false := by simp; omega
        have t2 : decide ((57 : Int) < (r : Int)) = false := by simp; omega
        have HN2 : Hid (∀ j q, j < k + 1 → (runes (bl s))[j]? = some q → digR q = true) := fun j q hj hq => by
          rcases Nat.lt_or_ge j k with h | h
          · exact HN.out j q h hq
          · have : j = k := by omega
            subst this
            rw [hr.out] at hq
            injection hq with hq
            rw [← hq]; exact digR_iff.2 ⟨hd1, hd2⟩
        clear HN hd1 hd2
        go_wp2
        go_roundw
        case rel => exact ⟨k + 1, by omega, HN2, hit2.out, hb2⟩
        case measure => simp only [World.iterPos, hit2.out, hitp.out]; omega
    · exfalso
      have h := H.out
      rw [Bool.eq_false_iff] at h
      refine h (List.all_eq_true.2 (fun r hr => ?_))
      obtain ⟨j, hj⟩ := List.mem_iff_getElem?.1 hr
      have hjl := (List.getElem?_eq_some_iff.1 hj).1
      exact HN.out j r (by omega) hj
theorem valD_map {l : List Nat} (h : ∀ r ∈ l, digR r = true) : valD (l.map UInt8.ofNat) = valR l := by
  unfold valD valR
  have key : ∀ (l : List Nat) (a : Nat), (∀ r ∈ l, digR r = true) → (l.map UInt8.ofNat).foldl (fun a b => a * 10 + (b.toNat - 48)) a = l.foldl (fun a r => a * 10 + (r - 48)) a := by
    intro l
    induction l with
    | nil => intro a _; rfl
    | cons r t ih =>
      intro a h
      have hr := digR_iff.1 (h r List.mem_cons_self)
      rw [List.map_cons, List.foldl_cons, List.foldl_cons, ih _ (fun x hx => h x (List.mem_cons_of_mem _ hx))]
      have e : (UInt8.ofNat r).toNat = r := by simp; omega
      rw [e]
  exact key l 0 h
theorem isD_map {l : List Nat} (h : ∀ r ∈ l, digR r = true) : ∀ b ∈ l.map UInt8.ofNat, isD b = true := by
  intro b hb
  obtain ⟨r, hr, rfl⟩ := List.mem_map.1 hb
  have hd := digR_iff.1 (h r hr)
  have e : (UInt8.ofNat r).toNat = r := by simp; omega
  unfold isD
  simp only [e]
  simp; omega
theorem dig_small {r : Nat} (h : digR r = true) : smallR r = true := by rw [digR_iff] at h; unfold smallR; simp; omega
theorem dig_lt {r : Nat} (h : digR r = true) : r < 128 := by rw [digR_iff] at h; omega
/-- of digits alone -/
theorem number_ok (l : List Nat) (w : World) (h : ∀ r ∈ l, digR r = true) (hne : l ≠ []) (hok : numOk l = true) :
    Calls Tryz.prog 129 #[.string (strR l)] w fun e w' => e = .returned (.tuple #[.int .i64 (valR l), .bool true]) ∧ Below w.heap.size w w' := by
  have hsz := strR_size (fun r hr => dig_lt (h r hr))
  have hl0 : l.length ≠ 0 := fun e => hne (List.eq_nil_of_length_eq_zero e)
  have hA : Lib.atoi (strR l).data.toList = some (valR l : Int) := by
    show Lib.atoi (bl (strR l)) = _
    rw [bl_strR, flat_small (fun r hr => dig_lt (h r hr)), atoi_all (isD_map h) (by simpa using hne), valD_map h]
  have hall : (runes (bl (strR l))).all digR = true := by
    rw [runes_small (fun r hr => dig_small (h r hr))]; exact List.all_eq_true.2 h
  unfold numOk at hok
  simp at hok
  obtain ⟨h9, hz⟩ := hok
  have hl18 : (strR l).size ≤ 18 := by omega
  have t1 : decide ((9 : Int) < ((strR l).size : Int)) = false := by simp; omega
  have hd := Lib.hid (fun w => digits_yes (strR l) w (by unfold maxLen; omega) hall (by omega))
  have hhead : ∀ (hp : 0 < (strR l).size), (((strR l)[0]'hp).toNat : Int) = (l.headD 0 : Int) := by
    intro hp
    have e1 : (bl (strR l))[0]? = some ((strR l)[0]'hp) := by rw [List.getElem?_eq_getElem (by rw [bl_len]; exact hp)]; rfl
    rw [bl_strR, flat_small (fun r hr => dig_lt (h r hr))] at e1
    cases l with
    | nil => exact absurd rfl hne
    | cons r t =>
      simp at e1
      rw [← e1]
      have hr := digR_iff.1 (h r List.mem_cons_self)
      simp; omega
  obtain ⟨v, hv⟩ : ∃ v : Nat, Hid (valR l = v) := ⟨_, rfl⟩
  rw [hv.out] at hA ⊢
  obtain ⟨s, hs⟩ : ∃ s, Hid (strR l = s) := ⟨_, rfl⟩
  rw [hs.out] at hA hl18 t1 hd hsz ⊢
  have hhead2 : ∀ (hp : 0 < s.size), ((s[0]'hp).toNat : Int) = (l.headD 0 : Int) := by
    have e := hs.out
    subst e; exact hhead
  have hp : 0 < s.size := by omega
  have hcase : decide ((1 : Int) < (s.size : Int)) = false ∨ (decide ((1 : Int) < (s.size : Int)) = true ∧ (((s[0]'hp).toNat : Int) == 48) = false) := by
    by_cases h1 : 1 < s.size
    · right
      refine ⟨by simp; omega, ?_⟩
      rw [hhead2 hp]
      have := hz.resolve_left (by omega)
      cases l with
      | nil => exact absurd rfl hne
      | cons r t => simp at this ⊢; omega
    · left; simp; omega
  clear hall hhead hhead2 hz h9 hne h hsz hl0
  rcases hcase with t2 | ⟨t2, t3⟩
  all_goals
    go_enter Tryz.func129, Tryz.ntmps129
    go_wp2_with (first
      | (go_at_call 128; refine (hd.out _).mono ?_; rintro e w1 ⟨rfl, hb1⟩)
      | (go_at_call 136; refine (Tryz.strconv_Atoi _ _ hl18 hA _).mono ?_; rintro e w2 ⟨rfl, hw2⟩))
    have b2 : Below w1.heap.size w1 w2 := by
      obtain ⟨x, rfl⟩ := hw2
      exact Lib.bytesWorld_below _ _ _
    go_quiet (fail)
    go_wp2
    go_ret2
    exact ⟨rfl, below_drewN (bt hb1 b2) _⟩
theorem number_bad (l : List Nat) (w : World) (h : ∀ r ∈ l, digR r = true) (hne : l ≠ []) (hlen : l.length ≤ 100000) (hok : numOk l = false) :
    Calls Tryz.prog 129 #[.string (strR l)] w fun e w' => e = .returned (.tuple #[.int .i64 0, .bool false]) ∧ Below w.heap.size w w' := by
  have hsz := strR_size (fun r hr => dig_lt (h r hr))
  have hl0 : l.length ≠ 0 := fun e => hne (List.eq_nil_of_length_eq_zero e)
  have hall : (runes (bl (strR l))).all digR = true := by
    rw [runes_small (fun r hr => dig_small (h r hr))]; exact List.all_eq_true.2 h
  have hd := Lib.hid (fun w => digits_yes (strR l) w (by unfold maxLen; omega) hall (by omega))
  have hhead : ∀ (hp : 0 < (strR l).size), (((strR l)[0]'hp).toNat : Int) = (l.headD 0 : Int) := by
    intro hp
    have e1 : (bl (strR l))[0]? = some ((strR l)[0]'hp) := by rw [List.getElem?_eq_getElem (by rw [bl_len]; exact hp)]; rfl
    rw [bl_strR, flat_small (fun r hr => dig_lt (h r hr))] at e1
    cases l with
    | nil => exact absurd rfl hne
    | cons r t =>
      simp at e1
      rw [← e1]
      have hr := digR_iff.1 (h r List.mem_cons_self)
      simp; omega
  unfold numOk at hok
  simp at hok
  obtain ⟨s, hs⟩ : ∃ s, Hid (strR l = s) := ⟨_, rfl⟩
  rw [hs.out] at hd hsz ⊢
  have hhead2 : ∀ (hp : 0 < s.size), ((s[0]'hp).toNat : Int) = (l.headD 0 : Int) := by
    have e := hs.out
    subst e; exact hhead
  have hp : 0 < s.size := by omega
  have hcase : decide ((9 : Int) < (s.size : Int)) = true ∨ (decide ((9 : Int) < (s.size : Int)) = false ∧ decide ((1 : Int) < (s.size : Int)) = true ∧ (((s[0]'hp).toNat : Int) == 48) = true) := by
    by_cases h9 : l.length ≤ 9
    · right
      obtain ⟨h1, h2⟩ := hok h9
      refine ⟨by simp; omega, by simp; omega, ?_⟩
      rw [hhead2 hp]
      cases l with
      | nil => exact absurd rfl hne
      | cons r t => simp at h2 ⊢; omega
    · left; simp; omega
  have hmx : s.size ≤ 100000 := by omega
  clear hall hhead hhead2 hok hne h hl0 hsz hlen
  rcases hcase with t1 | ⟨t1, t2, t3⟩
  all_goals
    go_enter Tryz.func129, Tryz.ntmps129
    go_wp2_with (go_at_call 128; refine (hd.out _).mono ?_; rintro e w1 ⟨rfl, hb1⟩)
    go_ret2
    exact ⟨rfl, hb1⟩
theorem app1 (a b : Value) : #[a] ++ #[b] = #[a, b] := rfl
theorem app0 (a : Value) : #[a] ++ (#[] : Array Value) = #[a] := rfl
theorem enters_of1 : Enters Tryz.prog 115 := enters_of Tryz.func115 (by kernel_rfl) rfl
theorem enters_word1 : Enters Tryz.prog 125 := enters_of Tryz.func125 (by kernel_rfl) rfl
theorem enters_count1 : Enters Tryz.prog 127 := enters_of Tryz.func127 (by kernel_rfl) rfl
theorem enters_text1 : Enters Tryz.prog 130 := enters_of Tryz.func130 (by kernel_rfl) rfl
/-- what the closure of blanks holds: its classes -/
def OfAt (cs : List Int) (C g : Nat) (v : World) : Prop :=
  v.heap[C]? = some (.cells #[.slice (some ⟨g, 0, none⟩) cs.length cs.length] 38 (0, 0)) ∧ v.heap[g]? = some (.cells (cs.map (Value.int .i64)).toArray 3 (0, 0))
theorem OfAt.keep {cs : List Int} {C g R : Nat} {v v' : World} (h : OfAt cs C g v) (hC : C ≠ R) (hg : g ≠ R) (hb : ∀ b, b ≠ R → v'.heap[b]? = v.heap[b]?) : OfAt cs C g v' :=
  ⟨(hb C hC).trans h.1, (hb g hg).trans h.2⟩
theorem OfAt.below {cs : List Int} {C g : Nat} {v v' : World} (h : OfAt cs C g v) (hb : Below v.heap.size v v') : OfAt cs C g v' :=
  ⟨(hb.block C (lt_of_block h.1)).trans h.1, (hb.block g (lt_of_block h.2)).trans h.2⟩
theorem OfAt.kb {cs : List Int} {C g : Nat} {S : Nat → Prop} {v v' : World} (h : OfAt cs C g v) (hb : Kb S v v') (hC : ¬ S C) (hg : ¬ S g) : OfAt cs C g v' :=
  ⟨(hb.block C (lt_of_block h.1) hC).trans h.1, (hb.block g (lt_of_block h.2) hg).trans h.2⟩
theorem OfAt.calls {cs : List Int} {C g : Nat} {v : World} (h : OfAt cs C g v) (hn : cs.length ≤ 100) (r : Nat) :
    Calls Tryz.prog 115 (#[.int .i32 (r : Int)] ++ #[.pointer (some ⟨C, 0, none⟩)]) v fun e v' => e = .returned (.bool (hasC cs r)) ∧ v = v' :=
  of1_any r C g cs.length cs.length cs v (cell_of_one h.1) rfl hn (fun j x hx => by simp [World.cell?, h.2, hx])
/-- 'while' over blanks -/
theorem blanks_any (R n c : Nat) (A : Option Addr) (rs : List Nat) (i : Nat) (bad err : Int) (C g : Nat) (w : World) (hC : C ≠ R) (hg : g ≠ R)
    (h0 : Rd w R A n c rs i bad err) (hj : OfAt [1] C g w) (hin : i ≤ n) (hn : n ≤ 100000) (hcm : c ≤ maxLen) :
    Calls Tryz.prog 111 #[.pointer (some ⟨R, 0, none⟩), .func (.func 115) #[] #[.pointer (some ⟨C, 0, none⟩)]] w fun e w' =>
      (∃ s, e = .returned (.string s)) ∧ Rd w' R A n c rs (skipR rs i) bad err ∧ OfAt [1] C g w' ∧ Kb (· = R) w w' := by
  have hlen := h0.len
  refine (while_any R n c A rs i (skipR rs i) bad err _ _ enters_of1 (fun _ => False) (fun _ v => OfAt [1] C g v) (fun k => blankR (rs.getD k 0)) w id (fun _ _ => id)
    (fun k v v' h hb => h.keep hC hg hb) (fun k r v hr _ _ hv => (hv.calls (by simp) r).mono ?_) h0 hj (skip_le (by omega)).1 (by have := (skip_le (rs := rs) (i := i) (by omega)).2; omega) ?_ ?_ hn hcm).mono ?_
  · rintro e v' ⟨rfl, rfl⟩
    rw [getD_of hr]
    exact ⟨rfl, Kb.refl _ _, hv⟩
  · intro k h1 h2
    have hk : k < rs.length := by have := (skip_le (rs := rs) (i := i) (by omega)).2; omega
    rw [getD_of (List.getElem?_eq_getElem hk)]
    exact spanI_in (p := blankR) h1 h2 (List.getElem?_eq_getElem hk)
  · intro h
    have hk : skipR rs i < rs.length := by omega
    rw [getD_of (List.getElem?_eq_getElem hk)]
    exact spanI_stop (p := blankR) (List.getElem?_eq_getElem hk)
  · rintro e w' ⟨rfl, h1, h2, h3⟩
    exact ⟨⟨_, rfl⟩, h1, h2, h3.mono (fun b hb => hb.elim id False.elim)⟩
/-- what the closure of a word holds -/
def WordAt (I C g : Nat) (v : World) : Prop := v.heap[I]? = some (.cells #[.func (.func 115) #[] #[.pointer (some ⟨C, 0, none⟩)]] 155 (0, 0)) ∧ OfAt [2, 3] C g v
theorem words_any (R n c : Nat) (A : Option Addr) (rs : List Nat) (i : Nat) (bad err : Int) (I C g : Nat) (w : World) (hI : I ≠ R) (hC : C ≠ R) (hg : g ≠ R)
    (h0 : Rd w R A n c rs i bad err) (hj : WordAt I C g w) (hin : i ≤ n) (hn : n ≤ 100000) (hcm : c ≤ maxLen) :
    Calls Tryz.prog 111 #[.pointer (some ⟨R, 0, none⟩), .func (.func 125) #[] #[.pointer (some ⟨I, 0, none⟩)]] w fun e w' =>
      e = .returned (.string (strR (cutR rs i (endW rs i)))) ∧ Rd w' R A n c rs (endW rs i) bad err ∧ Kb (· = R) w w' := by
  have hlen := h0.len
  have hle : endW rs i ≤ rs.length := spanI_le (by omega)
  refine (while_any R n c A rs i (endW rs i) bad err _ _ enters_word1 (fun _ => False) (fun _ v => WordAt I C g v) (fun k => wordR (rs.getD k 0)) w id (fun _ _ => id)
    (fun k v v' h hb => ⟨(hb I hI).trans h.1, h.2.keep hC hg hb⟩) (fun k r v hr _ _ hv => ?_) h0 hj (by unfold endW; omega) (by omega) ?_ ?_ hn hcm).mono ?_
  · rw [app1]
    refine (word1_any r I C g 2 v (cell_of_one hv.1) (cell_of_one hv.2.1) (by have := hv.2.2; simp [World.cell?, this]) (by have := hv.2.2; simp [World.cell?, this])).mono ?_
    rintro e v' ⟨rfl, rfl⟩
    rw [getD_of hr]
    exact ⟨rfl, Kb.refl _ _, hv⟩
  · intro k h1 h2
    have hk : k < rs.length := by omega
    rw [getD_of (List.getElem?_eq_getElem hk)]
    exact spanI_in (p := wordR) h1 h2 (List.getElem?_eq_getElem hk)
  · intro h
    have hk : endW rs i < rs.length := by omega
    rw [getD_of (List.getElem?_eq_getElem hk)]
    exact spanI_stop (p := wordR) (List.getElem?_eq_getElem hk)
  · rintro e w' ⟨rfl, h1, h2, h3⟩
    exact ⟨rfl, h1, h3.mono (fun b hb => hb.elim id False.elim)⟩
theorem smalls_any (R n c : Nat) (A : Option Addr) (rs : List Nat) (i : Nat) (bad err : Int) (w : World)
    (h0 : Rd w R A n c rs i bad err) (hin : i ≤ n) (hn : n ≤ 100000) (hcm : c ≤ maxLen) :
    Calls Tryz.prog 111 #[.pointer (some ⟨R, 0, none⟩), .func (.func 127) #[] #[]] w fun e w' =>
      e = .returned (.string (strR (cutR rs i (endD rs i)))) ∧ Rd w' R A n c rs (endD rs i) bad err ∧ Kb (· = R) w w' := by
  have hlen := h0.len
  have hle : endD rs i ≤ rs.length := spanI_le (by omega)
  refine (while_any R n c A rs i (endD rs i) bad err _ _ enters_count1 (fun _ => False) (fun _ v => True) (fun k => smallR (rs.getD k 0)) w id (fun _ _ => id)
    (fun k v v' h hb => trivial) (fun k r v hr _ _ hv => ?_) h0 trivial (by unfold endD; omega) (by omega) ?_ ?_ hn hcm).mono ?_
  · rw [app0]
    refine (count1_any r v).mono ?_
    rintro e v' ⟨rfl, rfl⟩
    rw [getD_of hr]
    exact ⟨rfl, Kb.refl _ _, trivial⟩
  · intro k h1 h2
    have hk : k < rs.length := by omega
    rw [getD_of (List.getElem?_eq_getElem hk)]
    exact spanI_in (p := smallR) h1 h2 (List.getElem?_eq_getElem hk)
  · intro h
    have hk : endD rs i < rs.length := by omega
    rw [getD_of (List.getElem?_eq_getElem hk)]
    exact spanI_stop (p := smallR) (List.getElem?_eq_getElem hk)
  · rintro e w' ⟨rfl, h1, h2, h3⟩
    exact ⟨rfl, h1, h3.mono (fun b hb => hb.elim id False.elim)⟩
theorem texts_any (R n c : Nat) (A : Option Addr) (rs : List Nat) (i : Nat) (bad err : Int) (I : Nat) (w : World) (hI : I ≠ R) (hA : ∀ ad, A = some ad → ad.block ≠ I)
    (h0 : Rd w R A n c rs i bad err) (hj : w.heap[I]? = some (.cells #[.bool true] 4 (0, 0))) (hin : i ≤ n) (hn : n ≤ 100000) (hcm : c ≤ maxLen) :
    Calls Tryz.prog 111 #[.pointer (some ⟨R, 0, none⟩), .func (.func 130) #[] #[.pointer (some ⟨I, 0, none⟩)]] w fun e w' =>
      (∃ s, e = .returned (.string s)) ∧ Rd w' R A n c rs (endT rs i) bad err ∧ Kb (fun b => b = R ∨ b = I) w w' := by
  have hlen := h0.len
  have hle : endT rs i ≤ rs.length := endT_le (by omega)
  have hii : i ≤ endT rs i := by unfold endT; omega
  refine (while_any R n c A rs i (endT rs i) bad err _ _ enters_text1 (· = I) (fun k v => v.heap[I]? = some (.cells #[.bool (heldN true (rs.drop i) (k - i))] 4 (0, 0))) (fun k => textR (heldN true (rs.drop i) (k - i)) (rs.getD k 0)) w (fun e => hI e.symm) (fun ad e => hA ad e)
    (fun k v v' h hb => (hb I hI).trans h) (fun k r v hr hik hkm hv => ?_) h0 (by simpa [heldN] using hj) hii (by omega) ?_ ?_ hn hcm).mono ?_
  · rw [getD_of hr, app1]
    cases hx : textR (heldN true (rs.drop i) (k - i)) r with
    | true =>
      refine (text1_yes r _ I v hv hx).mono ?_
      rintro e v' ⟨rfl, rfl⟩
      refine ⟨rfl, (Kb.refl (· = I) _).set_ (p := ⟨I, 0, none⟩) rfl _, ?_⟩
      rw [one_setCell hv]
      simp only [if_true]
      rw [show k + 1 - i = (k - i) + 1 by omega, heldN_succ (drop_get hik hr)]
    | false =>
      refine (text1_no r _ I v hv hx).mono ?_
      rintro e v' ⟨rfl, rfl⟩
      exact ⟨rfl, Kb.refl _ _, by simpa using hv⟩
  · intro k h1 h2
    have hk : k < rs.length := by omega
    rw [getD_of (List.getElem?_eq_getElem hk)]
    exact scan_mid (h := true) (l := rs.drop i) (k := k - i) (by unfold endT at h2; omega) (drop_get h1 (List.getElem?_eq_getElem hk))
  · intro h
    have hk : endT rs i < rs.length := by omega
    rw [getD_of (List.getElem?_eq_getElem hk)]
    have h2 := scan_stop (h := true) (l := rs.drop i) (x := rs[endT rs i]) (by rw [List.getElem?_drop]; exact List.getElem?_eq_getElem hk)
    rw [show endT rs i - i = scan true (rs.drop i) by unfold endT; omega]
    exact h2
  · rintro e w' ⟨rfl, h1, h2, h3⟩
    exact ⟨⟨_, rfl⟩, h1, h3⟩
end Go.Proofs.YtmkmmggimokagaaGreatDoor
