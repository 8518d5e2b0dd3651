/- Layer 5: a word; a number or a time. -/
import Derived.Test.YtenonfoocjcdmaaDoorLexW5
import Derived.Laws.EntriesVeiled
namespace Go.Proofs.YtenonfoocjcdmaaDoor
set_option linter.unusedVariables false
open Go.RowKit
def tok0 : Obj := .cells #[.int .i64 0, .string ⟨#[]⟩, .int .i64 0, .int .i64 0] 42
/-- the world in which a word is read: the token, the classes, the closure -/
def wordW (w : World) : World :=
  (((w.alloc tok0).alloc (.cells #[.int .i64 2, .int .i64 3] 3)).alloc (.cells #[.slice (some ⟨w.heap.size + 1, 0, none⟩) 2 2] 64)).alloc (.cells #[.func (.func 67) #[] #[.pointer (some ⟨w.heap.size + 2, 0, none⟩)]] 90)
theorem strR_small (l : List Nat) : (strR l).size ≤ 4 * l.length := by
  rw [← bl_len, bl_strR]
  induction l with
  | nil => simp
  | cons r t ih => rw [List.flatMap_cons, List.length_append, List.length_cons]; have := enc_len r; omega
theorem cutR_le (rs : List Nat) (i m : Nat) : (cutR rs i m).length ≤ rs.length := by unfold cutR; simp; omega
theorem row4 {v : World} {b : Nat} {a0 a1 a2 a3 : Value} {t : TypeId} (h : v.heap[b]? = some (.cells #[a0, a1, a2, a3] t (0, 0))) :
    (∀ j, v.frozen? ⟨b, j, none⟩ = false) ∧ v.cell? ⟨b, 0, none⟩ = some a0 ∧ v.cell? ⟨b, 1, none⟩ = some a1 ∧ v.cell? ⟨b, 2, none⟩ = some a2 ∧ v.cell? ⟨b, 3, none⟩ = some a3 := by
  refine ⟨fun j => by simp [World.frozen?, h], ?_, ?_, ?_, ?_⟩ <;> simp [World.cell?, h]
theorem Kb.fresh {S : Nat → Prop} {w w' : World} (h : Kb (fun b => S b ∨ w.heap.size ≤ b) w w') : Kb S w w' :=
  ⟨h.os, h.tape, h.output, h.size, fun b hb hn => h.block b hb (fun x => x.elim hn (fun y => absurd hb (by omega)))⟩
theorem Rd.keepNew {w0 w w' : World} {R n c : Nat} {A : Option Addr} {rs : List Nat} {k0 bad0 err0 k bad err : Int} (h0 : Rd w0 R A n c rs k0 bad0 err0) (h : Rd w R A n c rs k bad err) (hk : Kb (fun b => w0.heap.size ≤ b) w w') : Rd w' R A n c rs k bad err :=
  ⟨(hk.block R h.lt (by have := h0.lt; omega)).trans h.blk, h.len, h.cap, fun hn => by
    obtain ⟨g, e, hg, hc⟩ := h.line hn
    obtain ⟨g', e', hg', hc'⟩ := h0.line hn
    have eg : g = g' := by rw [e] at e'; injection e' with e'; injection e'
    subst eg
    refine ⟨g, e, hg, fun j r hr => ?_⟩
    have h1 := hc j r hr
    have h2 := cell_lt (hc' j r hr)
    exact (hk.cell (cell_lt h1) (fun x => absurd h2 (by simpa using x))).trans h1⟩
theorem set4 {S : Nat → Prop} {w w' : World} {b : Nat} {a0 a1 a2 a3 : Value} (h : Kb S w w') (hb : S b) : Kb S w ((((w'.setCell ⟨b, 0, none⟩ a0).setCell ⟨b, 1, none⟩ a1).setCell ⟨b, 2, none⟩ a2).setCell ⟨b, 3, none⟩ a3) :=
  (((h.set_ (p := ⟨b, 0, none⟩) hb _).set_ (p := ⟨b, 1, none⟩) hb _).set_ (p := ⟨b, 2, none⟩) hb _).set_ (p := ⟨b, 3, none⟩) hb _
theorem set4_blk {v : World} {b : Nat} {x0 x1 x2 x3 a0 a1 a2 a3 : Value} {t : TypeId} (h : v.heap[b]? = some (.cells #[x0, x1, x2, x3] t (0, 0))) :
    ((((v.setCell ⟨b, 0, none⟩ a0).setCell ⟨b, 1, none⟩ a1).setCell ⟨b, 2, none⟩ a2).setCell ⟨b, 3, none⟩ a3).heap[b]? = some (.cells #[a0, a1, a2, a3] t (0, 0)) := by
  simp [World.setCell, Array.getElem?_modify, h]
set_option maxHeartbeats 1000000 in
theorem word_any (R n c : Nat) (A : Option Addr) (rs : List Nat) (i : Nat) (bad : Int) (w : World) (h0 : Rd w R A n c rs i bad 0) (hin : i ≤ n) (hn : n ≤ 100000) (hcm : c ≤ maxLen) :
    Calls Tryd.prog 69 #[.pointer (some ⟨R, 0, none⟩)] w fun e w' =>
      e = .returned (tkV ⟨1, lowT (cutR rs i (endW rs i)), 0, 0⟩) ∧ Rd w' R A n c rs (endW rs i) bad 0 ∧ Kb (· = R) w w' := by
  have hmf : ∀ (fn : Fn) (first cap : Array Value) (w : World), (Instr.makeFunc fn first cap).run Tryd.prog w = .ok (.func fn first cap) w := fun _ _ _ _ => rfl
  have hR := h0.lt
  have hlen := h0.len
  have hcl := cutR_le rs i (endW rs i)
  have hss := strR_small (cutR rs i (endW rs i))
  have hlow : Hid (lowT (cutR rs i (endW rs i)) = ⟨((bl (strR (cutR rs i (endW rs i)))).map lowB).toArray⟩) := rfl
  obtain ⟨s, hs⟩ : ∃ s, Hid (strR (cutR rs i (endW rs i)) = s) := ⟨_, rfl⟩
  rw [hs.out] at hss hlow
  have b4 : Below w.heap.size w (wordW w) := by
    unfold wordW
    exact ((((Below.refl _ w).alloc (Nat.le_refl _) _).alloc (by simp) _).alloc (by simp; omega) _).alloc (by simp; omega) _
  have hr4 := h0.below b4
  have hz4 : (wordW w).heap.size = w.heap.size + 4 := by simp [wordW]
  have hj4 : WordAt (w.heap.size + 3) (w.heap.size + 2) (w.heap.size + 1) (wordW w) := by
    refine ⟨?_, ?_, ?_⟩
    · have h := heap_alloc_new (((w.alloc tok0).alloc (.cells #[.int .i64 2, .int .i64 3] 3)).alloc (.cells #[.slice (some ⟨w.heap.size + 1, 0, none⟩) 2 2] 64)) (.cells #[.func (.func 67) #[] #[.pointer (some ⟨w.heap.size + 2, 0, none⟩)]] 90)
      simpa [wordW] using h
    · have h := heap_alloc_new ((w.alloc tok0).alloc (.cells #[.int .i64 2, .int .i64 3] 3)) (.cells #[.slice (some ⟨w.heap.size + 1, 0, none⟩) 2 2] 64)
      unfold wordW
      rw [Below.heap_alloc _ _ _ (by simp)]
      simpa using h
    · have h := heap_alloc_new (w.alloc tok0) (.cells #[.int .i64 2, .int .i64 3] 3)
      unfold wordW
      rw [Below.heap_alloc _ _ _ (by simp), Below.heap_alloc _ _ _ (by simp)]
      simpa using h
  have hwh := words_any R n c A rs i bad 0 (w.heap.size + 3) (w.heap.size + 2) (w.heap.size + 1) (wordW w) (by omega) (by omega) (by omega) hr4 hj4 hin hn hcm
  rw [hs.out] at hwh
  have hwh2 := Lib.hid hwh
  have hW : Hid (wordW w = (((w.alloc tok0).alloc (.cells #[.int .i64 2, .int .i64 3] 3)).alloc (.cells #[.slice (some ⟨w.heap.size + 1, 0, none⟩) 2 2] 64)).alloc (.cells #[.func (.func 67) #[] #[.pointer (some ⟨w.heap.size + 2, 0, none⟩)]] 90)) := rfl
  have ht0 : (wordW w).heap[w.heap.size]? = some tok0 := by
    unfold wordW
    rw [Below.heap_alloc _ _ _ (by simp <;> omega), Below.heap_alloc _ _ _ (by simp <;> omega), Below.heap_alloc _ _ _ (by simp)]
    exact heap_alloc_new w tok0
  clear hwh
  unfold tok0 at hW
  go_enter Tryd.func69, Tryd.ntmps69
  go_wp2_with (go_at_call 48; refine (of_any _ _ _ _).mono ?_; rintro e w1 ⟨rfl, rfl⟩)
  refine Calls.mono hwh2.out ?_
  rintro e w2 ⟨rfl, hr2, hk2⟩
  have e2 : Hid (w2.heap[w.heap.size]? = some tok0) := (hk2.block _ (by omega) (by omega)).trans ht0
  have hz2 : w.heap.size + 4 ≤ w2.heap.size := by have := hk2.size; omega
  have hR2 := Lib.hid hr2
  have hK2 := Lib.hid hk2
  have hB4 := Lib.hid b4
  have H0 := Lib.hid h0
  clear hr2 hk2 hj4 hr4 ht0 hwh2 h0 hW hz4 b4
  dsimp only
  go_wp2_with (go_at_call 92; refine (lower_any s _ (by unfold maxLen; omega)).mono ?_; rintro e w3 ⟨rfl, hb3⟩; have e3 : w3.heap[w.heap.size]? = some tok0 := (hb3.block _ (by omega)).trans e2.out; obtain ⟨e3f, e30, e31, e32, e33⟩ := row4 e3)
  (try simp only [Exit.inBlock, Exit.then])
  refine bodyPost_ret (results_cell_row rfl _ _ w.heap.size _ _ _ _ rfl (set4_blk e3) Tryd.underlying42 rfl (by kernel_rfl)) rfl ?_
  have kb : Kb (fun b => b = R ∨ w.heap.size ≤ b) w w3 := ((Kb.of_below hB4.out).trans (hK2.out.mono (fun b hb => Or.inl hb))).trans (Kb.of_below hb3)
  refine ⟨?_, H0.out.keepNew hR2.out (set4 (Kb.of_below hb3) (Nat.le_refl _)), Kb.fresh (set4 kb (Or.inr (Nat.le_refl _)))⟩
  rw [hlow.out]
  rfl
end Go.Proofs.YtenonfoocjcdmaaDoor
