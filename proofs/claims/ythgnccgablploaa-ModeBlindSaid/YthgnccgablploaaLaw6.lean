/- Helpers of the laws: works. -/
import Derived.Test.YthgnccgablploaaLaw5
set_option linter.unusedVariables false
set_option linter.unusedSimpArgs false
set_option maxRecDepth 100000
namespace Go.Proofs.Ythgnccgablploaa
open Go Go.RowKit Go.Conc
abbrev kyA : ByteArray := ⟨#[97]⟩
abbrev kyB : ByteArray := ⟨#[98]⟩
def ws1 : St := ⟨upL 33 32, 0, 32, [(kyA, upL 1 32)], []⟩
def ws2 : St := ⟨[], 0, 64, [(kyA, upL 1 32), (kyB, upL 33 32)], []⟩
theorem inm_0 (F R seed : List Int) : inm F R seed ⟨upL 1 64, 0, 0, [], []⟩ kyA = (upL 1 32, ws1) := by
  unfold inm
  rw [tDraw_short F R seed 32 (upL 1 64) 0 (by omega) (by simp [upL_len])]
  rfl
theorem inm_1 (F R seed : List Int) : inm F R seed ws1 kyB = (upL 33 32, ws2) := by
  unfold inm ws1
  have h : mget kyB [(kyA, upL 1 32)] = none := by rw [mget, if_neg (by decide)]; rfl
  simp only [h]
  rw [tDraw_short F R seed 32 (upL 33 32) 0 (by omega) (by simp [upL_len])]
  rfl
theorem inm_2 (F R seed : List Int) : inm F R seed ws2 kyA = (upL 1 32, ws2) := by
  unfold inm ws2
  rfl
theorem draw_works (F R : List Int) (pn : Nat) (h : pn = 12) : tDraw F R (List.replicate 40 170) (pn + 28) (List.replicate 40 170) 0 = (List.replicate 40 170, [], 0) := by
  subst h
  rw [tDraw_short F R _ 40 _ 0 (by omega) (by simp)]
  rfl
def m31 : Array Value := madeCells (Value.int .u8 0).cells 31
theorem make31 (w : World) : (Instr.makeSlice 22 (.int .i64 31) (.int .i64 31)).run Try.prog w = .ok (.slice (some ⟨w.heap.size, 0, none⟩) 31 31) (w.alloc (.cells m31 5)) := by
  obtain ⟨i0, hi0, hz0, hz1, hz2⟩ := info_parts infoU8
  have := run_makeSlice (P := Try.prog) w 22 5 i0 (.int .u8 0) Try.underlying22 hi0 hz0 .i64 .i64 31 31 (by decide) (by decide) (by rw [hz1]; decide) (by rw [hz2]; omega) (by decide)
  rw [hz1] at this
  exact this
theorem str_self (xs : List Int) : (decide (strOfNums xs = strOfNums xs)) = true := by simp
theorem named_w0 (F R : List Int) (w0 : World) (mb tb : Nat) (B : Option Addr) (d : Nat) (w : World) (hW : Wm F R w0 [] mb (upL 1 64) ⟨upL 1 64, 0, 0, [], []⟩ tb (upL 1 64) (upL 1 64) 0 0 w) (hy : Rd w B d (upL 1 32)) :
    Calls Try.prog 23 #[.pointer (some ⟨mb, 0, none⟩), .string kyA, .slice B 32 d] w fun e w' => e = .returned (.bool true) ∧ Wm F R w0 [] mb (upL 1 64) ws1 tb (upL 1 64) (upL 1 64) 0 0 w' := by
  have h := wm_named F R w0 [] mb (upL 1 64) ⟨upL 1 64, 0, 0, [], []⟩ tb (upL 1 64) (upL 1 64) 0 0 kyA B 32 d (upL 1 32) w hW (by rw [upL_len]; omega) (by simp [ws1, ws2, upL_len]) (by simp [ws1, ws2]) (by simp [ws1, ws2]) (by decide) (upL_len _ _).symm hy
  rw [inm_0] at h
  refine h.mono ?_
  rintro e w' ⟨he, h1, h2⟩
  rw [str_self] at he
  exact ⟨he, h1⟩
theorem named_w1 (F R : List Int) (w0 : World) (mb tb : Nat) (B : Option Addr) (d : Nat) (w : World) (hW : Wm F R w0 [] mb (upL 1 64) ws1 tb (upL 1 64) (upL 1 64) 0 0 w) (hy : Rd w B d (upL 33 32)) :
    Calls Try.prog 23 #[.pointer (some ⟨mb, 0, none⟩), .string kyB, .slice B 32 d] w fun e w' => e = .returned (.bool true) ∧ Wm F R w0 [] mb (upL 1 64) ws2 tb (upL 1 64) (upL 1 64) 0 0 w' := by
  have h := wm_named F R w0 [] mb (upL 1 64) ws1 tb (upL 1 64) (upL 1 64) 0 0 kyB B 32 d (upL 33 32) w hW (by rw [upL_len]; omega) (by simp [ws1, ws2, upL_len]) (by simp [ws1, ws2]) (by simp [ws1, ws2]) (by decide) (upL_len _ _).symm hy
  rw [inm_1] at h
  refine h.mono ?_
  rintro e w' ⟨he, h1, h2⟩
  rw [str_self] at he
  exact ⟨he, h1⟩
theorem named_w2 (F R : List Int) (w0 : World) (mb tb : Nat) (B : Option Addr) (d : Nat) (w : World) (hW : Wm F R w0 [] mb (upL 1 64) ws2 tb (upL 1 64) (upL 1 64) 0 0 w) (hy : Rd w B d (upL 1 32)) :
    Calls Try.prog 23 #[.pointer (some ⟨mb, 0, none⟩), .string kyA, .slice B 32 d] w fun e w' => e = .returned (.bool true) ∧ Wm F R w0 [] mb (upL 1 64) ws2 tb (upL 1 64) (upL 1 64) 0 0 w' := by
  have h := wm_named F R w0 [] mb (upL 1 64) ws2 tb (upL 1 64) (upL 1 64) 0 0 kyA B 32 d (upL 1 32) w hW (by rw [upL_len]; omega) (by simp [ws1, ws2, upL_len]) (by simp [ws1, ws2]) (by simp [ws1, ws2]) (by decide) (upL_len _ _).symm hy
  rw [inm_2] at h
  refine h.mono ?_
  rintro e w' ⟨he, h1, h2⟩
  rw [str_self] at he
  exact ⟨he, h1⟩
theorem Own.rd' {w : World} {base n c : Nat} {A : Option Addr} {xs : List Int} (h : Own w base (.slice A n c) xs) : Rd w A c xs := by
  obtain ⟨A1, c1, e1, h1, -⟩ := h.rd
  rw [Value.slice.injEq] at e1
  obtain ⟨rfl, -, rfl⟩ := e1
  exact h1
theorem below_one (w : World) (o : Obj) : Below w.heap.size w (w.alloc o) := (Below.refl _ w).alloc (Nat.le_refl _) o
theorem conv_h (w : World) : (convert 22 22 (.slice (some ⟨w.heap.size, 0, none⟩) 1 1)).run Try.prog (w.alloc (.cells #[.int .u8 104] 5)) = .ok (.slice (some ⟨w.heap.size, 0, none⟩) 1 1) (w.alloc (.cells #[.int .u8 104] 5 (1, 2))) := by
  have hsh : (w.alloc (.cells #[.int .u8 104] 5)).shape? w.heap.size = some (5, 1) := by
    simp [World.shape?, World.alloc, -World.alloc_eq]
  have hfr : (w.alloc (.cells #[.int .u8 104] 5)).freeze ⟨w.heap.size, 1, none⟩ 1 = w.alloc (.cells #[.int .u8 104] 5 (1, 2)) := by
    have hm : ∀ (a : Array Obj) (x : Obj) (f : Obj → Obj), (a.push x).modify a.size f = a.push (f x) := by
      intro a x f
      apply Array.ext
      · simp
      · intro i h1 h2
        simp only [Array.getElem_modify, Array.getElem_push]
        by_cases h : a.size = i
        · subst h
          simp
        · have hi : i < a.size := by simp at h1; omega
          simp [h, hi]
    unfold World.freeze
    rw [if_neg (by decide)]
    show ({ w.alloc (.cells #[.int .u8 104] 5) with heap := (w.heap.push (.cells #[.int .u8 104] 5)).modify w.heap.size _ } : World) = _
    rw [hm]
    rfl
  simp [convert, run_underlying Try.underlying22, run_underlying Try.underlying5, markStringish, hsh]
  exact hfr
abbrev forty : List Int := List.replicate 40 170
def ws3 : St := { ws2 with bx := mput (3, strOfNums [104], strOfNums forty) (strOfNums (upL 9 12)) [] }
theorem seal_w (F R : List Int) (w0 : World) (mb tb : Nat) (hA : Option Addr) (hc : Nat) (pA : Option Addr) (pc : Nat) (w : World) (hW : Wm F R w0 [] mb (upL 1 64) ws2 tb forty forty 0 0 w) (hh : Rd w hA hc [104]) (hp : Rd w pA pc (upL 9 12)) :
    Calls Try.prog 8 #[.pointer (some ⟨mb, 0, none⟩), .pointer (some ⟨tb, 0, none⟩), .int .i64 3, .slice hA 1 hc, .slice pA 12 pc] w fun e w' => ∃ A c, e = .returned (.tuple #[.slice A 40 c, .int .i64 0]) ∧ Rd w' A c forty ∧ Wm F R w0 [] mb (upL 1 64) ws3 tb forty [] 0 40 w' ∧ Kept [] w w' := by
  have h := wm_seal F R w0 [] mb (upL 1 64) ws2 tb forty forty 0 0 3 hA 1 hc [104] pA 12 pc (upL 9 12) w hW (by simp) (by simp) (by omega) (by omega) (by omega) (by omega) rfl hh (by omega) (upL_len _ _).symm hp (by omega)
  rw [draw_works F R 12 rfl] at h
  refine h.mono ?_
  rintro e w' ⟨A, c, h1, h2, h3, h4, h5⟩
  exact ⟨A, c, h1, h2, h4, h5⟩
theorem wm_open (F R : List Int) (w0 : World) (Pr : List Nat) (mb : Nat) (seed : List Int) (s : St) (tb : Nat) (tseed tleft : List Int) (tp tat : Nat) (ep : Int) (hA : Option Addr) (hn hc : Nat) (hd : List Int) (bA : Option Addr) (bn bc : Nat) (bs : List Int) (w : World) (hW : Wm F R w0 Pr mb seed s tb tseed tleft tp tat w)
    (he0 : 0 ≤ ep) (he1 : ep ≤ 255) (hhn : hn = hd.length) (hh : Rd w hA hc hd) (hhm : hn ≤ 4096) (hbn : bn = bs.length) (hb : Rd w bA bc bs) (hb0 : 28 ≤ bn) (hbm : bn ≤ 4124) :
    Calls Try.prog 9 #[.pointer (some ⟨mb, 0, none⟩), .int .i64 ep, .slice hA hn hc, .slice bA bn bc] w fun e w' => ∃ A n c, e = .returned (.tuple #[.slice A n c, .int .i64 (if (mget (ep, strOfNums hd, strOfNums bs) s.bx).isSome then 0 else 80)]) ∧ ∃ xs : List Int, n = xs.length ∧ Rd w' A c xs ∧ (∀ pl, mget (ep, strOfNums hd, strOfNums bs) s.bx = some pl → strOfNums xs = pl) ∧ Below w.heap.size w w' := by
  obtain ⟨own, town, g1, g2, g3, g4⟩ := hW.ex
  exact open_any F R mb seed s own ep hA hn hc hd bA bn bc bs w g1 he0 he1 hhn hh hhm hbn hb hb0 hbm
theorem open_w3 (F R : List Int) (w0 : World) (mb tb : Nat) (hA : Option Addr) (hc : Nat) (bA : Option Addr) (bc : Nat) (w : World) (hW : Wm F R w0 [] mb (upL 1 64) ws3 tb forty [] 0 40 w) (hh : Rd w hA hc [104]) (hb : Rd w bA bc forty) :
    Calls Try.prog 9 #[.pointer (some ⟨mb, 0, none⟩), .int .i64 3, .slice hA 1 hc, .slice bA 40 bc] w fun e w' => ∃ A n c, e = .returned (.tuple #[.slice A n c, .int .i64 0]) ∧ ∃ xs : List Int, n = xs.length ∧ Rd w' A c xs ∧ strOfNums xs = strOfNums (upL 9 12) ∧ Below w.heap.size w w' := by
  have h := wm_open F R w0 [] mb (upL 1 64) ws3 tb forty [] 0 40 3 hA 1 hc [104] bA 40 bc forty w hW (by omega) (by omega) rfl hh (by omega) (by simp) hb (by omega) (by omega)
  have hg : mget ((3 : Int), strOfNums [104], strOfNums forty) ws3.bx = some (strOfNums (upL 9 12)) := by
    show mget _ (mput _ _ []) = _
    rw [mget_mput, if_pos rfl]
  rw [hg] at h
  refine h.mono ?_
  rintro e w' ⟨A, n, c, h1, xs, h2, h3, h4, h5⟩
  exact ⟨A, n, c, h1, xs, h2, h3, h4 _ rfl, h5⟩
theorem open_w4 (F R : List Int) (w0 : World) (mb tb : Nat) (hA : Option Addr) (hc : Nat) (bA : Option Addr) (bc : Nat) (w : World) (hW : Wm F R w0 [] mb (upL 1 64) ws3 tb forty [] 0 40 w) (hh : Rd w hA hc [104]) (hb : Rd w bA bc forty) :
    Calls Try.prog 9 #[.pointer (some ⟨mb, 0, none⟩), .int .i64 4, .slice hA 1 hc, .slice bA 40 bc] w fun e w' => ∃ A n c, e = .returned (.tuple #[.slice A n c, .int .i64 80]) ∧ Below w.heap.size w w' := by
  have h := wm_open F R w0 [] mb (upL 1 64) ws3 tb forty [] 0 40 4 hA 1 hc [104] bA 40 bc forty w hW (by omega) (by omega) rfl hh (by omega) (by simp) hb (by omega) (by omega)
  have hg : mget ((4 : Int), strOfNums [104], strOfNums forty) ws3.bx = none := by
    show mget _ (mput _ _ []) = _
    rw [mget_mput, if_neg (by simp)]
    rfl
  rw [hg] at h
  refine h.mono ?_
  rintro e w' ⟨A, n, c, h1, xs, h2, h3, h4, h5⟩
  exact ⟨A, n, c, h1, h5⟩
theorem len_w3 (F R : List Int) (w0 : World) (mb tb : Nat) (w : World) (hW : Wm F R w0 [] mb (upL 1 64) ws3 tb forty [] 0 40 w) :
    Calls Try.prog 24 #[.pointer (some ⟨mb, 0, none⟩)] w fun e w' => e = .returned (.int .i64 1) ∧ w = w' := by
  obtain ⟨own, town, g1, g2, g3, g4⟩ := hW.ex
  exact len_any F R mb _ _ own w g1
theorem seal_256 (F R : List Int) (w0 : World) (mb tb tb2 : Nat) (w : World) (hW : Wm F R w0 [] mb (upL 1 64) ws3 tb forty [] 0 40 w) :
    Calls Try.prog 8 #[.pointer (some ⟨mb, 0, none⟩), .pointer (some ⟨tb2, 0, none⟩), .int .i64 256, .slice none 0 0, .slice none 0 0] w fun e w' => e = .returned (.tuple #[.slice none 0 0, .int .i64 2]) ∧ w = w' := by
  obtain ⟨own, town, g1, g2, g3, g4⟩ := hW.ex
  exact seal_arg F R mb _ _ own tb2 256 none 0 0 none 0 0 w g1 (by omega)
theorem new_nil (F R : List Int) (w : World) : Calls Try.prog 6 #[.slice none 0 0] w fun e w' => ∃ tb, e = .returned (.pointer (some ⟨tb, 0, none⟩)) ∧ Below w.heap.size w w' := by
  refine (new_tp F R none 0 0 [] w rfl (Rd.none_ w) (by simp)).mono ?_
  rintro e w' ⟨tb, h1, h2, h3, h4⟩
  exact ⟨tb, h1, h4⟩
theorem eqb_true (A B : Option Addr) (n c m d : Nat) (xs ys : List Int) (w : World) (hn : n = xs.length) (hx : Rd w A c xs) (hm : m = ys.length) (hy : Rd w B d ys) (he : strOfNums xs = strOfNums ys) :
    Calls Try.prog 10 #[.slice A n c, .slice B m d] w fun e w' => e = .returned (.bool true) ∧ w = w' := by
  have h := eqb_any A B n c m d xs ys w hn hx hm hy
  rw [he, str_self] at h
  exact h
end Go.Proofs.Ythgnccgablploaa
