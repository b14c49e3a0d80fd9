/- Contracts of package mac: Derive. -/
import Derived.Test.YtiboflejmnjdhaaDoorJU
import Derived.Test.YtiboflejmnjdhaaDoorJJ
import Derived.Laws.Externs
import Derived.Laws.IdiomStrings
import Derived.Test.YtiboflejmnjdhaaDoorJL
section
set_option linter.unusedVariables false
set_option linter.unusedSimpArgs false
set_option maxRecDepth 100000
namespace Go.Proofs.YtiboflejmnjdhaaDoor
open Go Go.RowKit Go.Shelf
attribute [local go_sem] Oper.semAt_some
theorem run_indexNative (s : ByteArray) (c : Int) (w : World) : (callFunc 98 #[.string s, .int .u8 c]).run Tryd.prog w = .ok (.value (.int .i64 (firstIdx s c.toNat.toUInt8))) w := by
  rw [run_callFunc_extern Tryd.func98 (e := Extern.BytealgIndexByte.indexByte) (by rfl) (by rfl) (by rfl) (by rfl), run_indexByte_string]
  rfl
def epochStr : ByteArray := { data := #[101, 112, 111, 99, 104] }
theorem contains_epoch (w : World) : Calls Tryd.prog 40 #[.string { data := #[101, 112, 111, 99, 104] }, .int .i32 0] w fun e w' => e = .returned (.bool false) ∧ w = w' := by
  have hi : ∀ W, (callFunc 98 #[.string { data := #[101, 112, 111, 99, 104] }, .int .u8 0]).run Tryd.prog W = .ok (.value (.int .i64 (-1))) W := fun W => by
    rw [run_indexNative]; rfl
  go_enter Tryd.func40, Tryd.ntmps40
  go_wp2
  go_ret
  exact ⟨rfl, rfl⟩
theorem wp_copy8b {w : World} {ops : Array Oper} {rest : List Oper} {o : Oper} {a : Act} {Q : Exit → Act → World → Prop} (hgd : o.guard = none) (d s : Operand) (ho : o.op = .call { callee := .builtin .copy, args := #[d, s], argTypes := #[22, 22] })
    (g n cg : Nat) (hd : a.eval d = .slice (some ⟨g, 0, none⟩) n cg) (A : Option Addr) (m c : Nat) (hs : a.eval s = .slice A m c) (xs : List Int) (hm : m = xs.length) (hr : Rd w A c xs)
    (cur : List Int) (t : TypeId) (hg : w.heap[g]? = some (.cells (w8 cur) t (0, 0))) (hn : n = cur.length) (hle : n ≤ m) (B : Nat) (w0 : World) (hb : Below B w0 w) (hBg : B ≤ g)
    (h : ∀ w', w'.heap[g]? = some (.cells (w8 (xs.take n)) t (0, 0)) → Below B w0 w' → wpList Tryd.prog ops Q rest (a.put o.dst (.int .i64 n)) w') :
    wpList Tryd.prog ops Q (o :: rest) a w := by
  have hmin : Nat.min m n = n := Nat.min_eq_right hle
  have htl : (xs.take n).length = n := by rw [List.length_take, ← hm]; omega
  have e1 : w8 cur = (cur.map (Value.int .u8)).toArray := rfl
  rw [e1] at hg
  refine wpList_copy_splice hgd d s 22 22 ho 5 Tryd.underlying22 (by kernel_rfl) (some ⟨g, 0, none⟩) A n cg m c hd hs g 0 (cur.map (Value.int .u8)) t hg ((xs.take n).map (Value.int .u8)) (by rw [hmin, List.length_map, htl]) ?_ (by rw [List.length_map, htl, List.length_map]; omega) (fun v hv => by
    obtain ⟨z, _, rfl⟩ := List.mem_map.1 hv; rfl) B w0 hb hBg ?_
  · intro hp
    obtain ⟨b, off, rfl, hc⟩ := hr.cells (by rw [List.length_map, htl] at hp; omega)
    refine ⟨rfl, _, rfl, fun j v hj => ?_⟩
    have hjl : j < n := by have := (List.getElem?_eq_some_iff.1 hj).1; rwa [List.length_map, htl] at this
    have ha : (⟨b, off, none⟩ : Addr).add j = ⟨b, off + j, none⟩ := by unfold Addr.add; split <;> simp_all
    have hjx : j < xs.length := by omega
    rw [ha, hc j hjx]
    rw [List.getElem?_map, List.getElem?_take, if_pos hjl] at hj
    simp [hjx] at hj
    simp [hj, hjx]
  · intro w' hw' hb'
    have h1 := h w' (by
      rw [hw'.out, w8, splice]
      simp only [List.take_zero, List.nil_append, Nat.zero_add, List.length_map, htl]
      rw [hn, List.drop_of_length_le (by simp), List.append_nil]) hb'
    have e : goInt (((xs.take n).map (Value.int .u8)).length) = .int .i64 (n : Int) := by rw [List.length_map, htl]; rfl
    rw [e]
    exact h1
theorem results_row_tmp {P : Program} {fn : Func} {p u : Tmp} {ty : TypeId} (h : fn.results = #[.cell p ty, .tmp u]) (tmps : Array Value) (w : World) (g : Nat) (t : TypeId) (cs : Array Value) (fr : Nat × Nat) (d : TypeDesc)
    (hp : tmps.getD p undef = .pointer (some ⟨g, 0, none⟩)) (hg : w.heap[g]? = some (.cells cs t fr))
    (hu : P.underlying ty = some d) (hd : (match d with | .struct _ | .array _ _ => true | _ => false) = true) (hi : (P.info? ty).map (·.size) = some cs.size) :
    (results fn tmps).run P w = .ok (.tuple #[.agg cs, tmps.getD u undef]) w := by
  have hp' : tmps[p]?.getD undef = .pointer (some ⟨g, 0, none⟩) := by simpa using hp
  simp [results, h, hp', asAddr, run_loadVar_row w g t ty cs fr d hg hu hd hi]
/-- What is macked of a label and a number. -/
def drvBytes (n : Int) : List Int := [101, 112, 111, 99, 104] ++ [0] ++ beTo n 8
theorem drvBytes_len (n : Int) : (drvBytes n).length = 14 := by simp [drvBytes, beTo_len]
/-- A derived key. -/
def drv (F R key : List Int) (n : Int) : List Int := (mac F R key (drvBytes n)).take 16
theorem drv_len (F R key : List Int) (n : Int) : (drv F R key n).length = 16 := by rw [drv, List.length_take, mac_len]; rfl
set_option maxHeartbeats 1000000 in
theorem derive_any (F R : List Int) (A : Option Addr) (n c : Nat) (key : List Int) (hn : n = key.length) (hn2 : n ≤ 1000000) (e : Int) (h0 : 0 ≤ e) (h1 : e ≤ 9007199254740991) (w : World) (hT : Tabs F R w) (hr : Rd w A c key) :
    Calls Tryd.prog 20 #[.slice A n c, .string { data := #[101, 112, 111, 99, 104] }, .int .i64 e] w fun x w' => x = .returned (.tuple #[.agg (w8 (drv F R key e)), .int .i64 0]) ∧ Below w.heap.size w w' := by
  have HT := Lib.hid hT
  have Hr := Lib.hid hr
  have Hn := Lib.hid hn
  clear hT hr hn
  have e1 : decide (e < 0) = false := by simp; omega
  have e2 : decide (9007199254740991 < e) = false := by simp; omega
  have Hcn : Hid (∀ s : ByteArray, numsOf { data := #[101, 112, 111, 99, 104] } = [101, 112, 111, 99, 104]) := Lib.hid (fun _ => by rfl)
  have HB0 : Hid (Below w.heap.size w (w.alloc (.cells #[.int .u8 0, .int .u8 0, .int .u8 0, .int .u8 0, .int .u8 0, .int .u8 0, .int .u8 0, .int .u8 0, .int .u8 0, .int .u8 0, .int .u8 0, .int .u8 0, .int .u8 0, .int .u8 0, .int .u8 0, .int .u8 0] 50))) := Lib.hid ((Below.refl _ _).alloc (Nat.le_refl _) _)
  have Hz0 : Hid ((w.alloc (.cells #[.int .u8 0, .int .u8 0, .int .u8 0, .int .u8 0, .int .u8 0, .int .u8 0, .int .u8 0, .int .u8 0, .int .u8 0, .int .u8 0, .int .u8 0, .int .u8 0, .int .u8 0, .int .u8 0, .int .u8 0, .int .u8 0] 50)).heap[w.heap.size]? = some (.cells #[.int .u8 0, .int .u8 0, .int .u8 0, .int .u8 0, .int .u8 0, .int .u8 0, .int .u8 0, .int .u8 0, .int .u8 0, .int .u8 0, .int .u8 0, .int .u8 0, .int .u8 0, .int .u8 0, .int .u8 0, .int .u8 0] 50 (0, 0))) := Lib.hid (new_at rfl)
  obtain ⟨m, hm⟩ : ∃ m, m = mac F R key (drvBytes e) := ⟨_, rfl⟩
  have hml : m.length = 32 := by rw [hm]; exact mac_len _ _ _ _
  have hdr : drv F R key e = m.take 16 := by rw [drv, hm]
  rw [hdr]
  have Hm := Lib.hid hm
  have Hml := Lib.hid hml
  have Hszm : Hid ((Tryd.prog.info? 45).map (·.size) = some (w8 m).size) := Lib.hid (by rw [w8_size, hml]; kernel_rfl)
  have Holdm : Hid ((#[.int .u8 0, .int .u8 0, .int .u8 0, .int .u8 0, .int .u8 0, .int .u8 0, .int .u8 0, .int .u8 0, .int .u8 0, .int .u8 0, .int .u8 0, .int .u8 0, .int .u8 0, .int .u8 0, .int .u8 0, .int .u8 0, .int .u8 0, .int .u8 0, .int .u8 0, .int .u8 0, .int .u8 0, .int .u8 0, .int .u8 0, .int .u8 0, .int .u8 0, .int .u8 0, .int .u8 0, .int .u8 0, .int .u8 0, .int .u8 0, .int .u8 0, .int .u8 0] : Array Value).size = (w8 m).size) := Lib.hid (by rw [w8_size, hml]; rfl)
  clear hm hml hdr
  go_enter Tryd.func20, Tryd.ntmps20
  go_upto_region 7 with (first
    | (go_at_call 40; go_must (refine (contains_epoch _).mono ?_; rintro x w' ⟨rfl, rfl⟩))
    | (go_at_call 41; go_must (refine (write_new2 _).mono ?_; rintro x w1 ⟨rfl, q1, q2⟩; obtain ⟨ce, w2, hconv, hrd, hb⟩ := conv_bytes { data := #[101, 112, 111, 99, 104] } w1 (by decide); have Hrd : Hid (Rd w2 (some ⟨w1.heap.size, 0, none⟩) ce [101, 112, 111, 99, 104]) := Lib.hid hrd; simp only [World.size_alloc] at q1 q2; have HW2 := Lib.hid (q1.below hb); have HB1 : Hid (Below w.heap.size w w1) := Lib.hid (HB0.out.trans (q2.mono (by omega))); have HB2 : Hid (Below w.heap.size w w2) := Lib.hid (HB1.out.trans (hb.mono HB1.out.size)); have Hs1 : w.heap.size + 1 ≤ w1.heap.size := (by have := q2.size; simpa using this); have Hz2 := Lib.hid (below_at hb (below_at q2 Hz0.out (by omega)) (by omega)); clear q1 q2 hrd hb))
    | (go_at_call 42; go_must (refine (raw_ok (w.heap.size + 1) (w.heap.size + 1) [] (some ⟨w1.heap.size, 0, none⟩) ce 5 [101, 112, 111, 99, 104] w2 HW2.out rfl Hrd.out (by decide)).mono ?_; rintro x w3 ⟨rfl, q1, q2⟩; have HW3 := Lib.hid q1; have HB3 : Hid (Below w.heap.size w w3) := Lib.hid (HB2.out.trans (q2.mono (by omega))); have Hz3 := Lib.hid (below_at q2 Hz2.out (by omega)); clear q1 q2))
    | (go_at_call_of 43 (Value.int IntKind.i64 8); go_must (refine (num_eight (w.heap.size + 1) (w.heap.size + 1) _ e w4 HW4.out h0 h1 (by decide)).mono ?_; rintro x w5 ⟨rfl, q1, q2⟩; have HW5 := Lib.hid q1; have HB5 : Hid (Below w.heap.size w w5) := Lib.hid (HB4.out.trans (q2.mono (by omega))); have Hz5 := Lib.hid (below_at q2 Hz4.out (by omega)); clear q1 q2))
    | (go_at_call 43; go_must (refine (num_one (w.heap.size + 1) (w.heap.size + 1) _ 0 w3 HW3.out (by omega) (by omega) (by decide)).mono ?_; rintro x w4 ⟨rfl, q1, q2⟩; have HW4 := Lib.hid q1; have HB4 : Hid (Below w.heap.size w w4) := Lib.hid (HB3.out.trans (q2.mono (by omega))); have Hz4 := Lib.hid (below_at q2 Hz3.out (by omega)); clear q1 q2))
    | (go_at_call 44; go_must (refine (bytes_ok (w.heap.size + 1) (w.heap.size + 1) (drvBytes e) w5 HW5.out (by rw [drvBytes_len]; decide)).mono ?_; rintro x w6 ⟨v, rfl, q1, q2⟩; obtain ⟨B, d, rfl, q3, _⟩ := q1.rd; rw [drvBytes_len]; have Hr6 := Lib.hid q3; have HB6 : Hid (Below w.heap.size w w6) := Lib.hid (HB5.out.trans (q2.mono HB5.out.size)); have Hz6 := Lib.hid (below_at q2 Hz5.out (blk_lt Hz5.out)); clear q1 q2 q3))
    | (go_at_call 18; go_must (refine (mac_any F R A n c key Hn.out hn2 B 14 d (drvBytes e) (by rw [drvBytes_len]) (by omega) w6 (HT.out.below HB6.out) (Hr.out.below HB6.out) Hr6.out).mono ?_; rw [← Hm.out]; rintro x w7 ⟨rfl, q2⟩; have HB7 : Hid (Below w.heap.size w w7) := Lib.hid (HB6.out.trans (q2.mono HB6.out.size)); have Hz7 := Lib.hid (below_at q2 Hz6.out (blk_lt Hz6.out)); clear q2))
    | (with_reducible refine wpList_store_new rfl 45 _ _ rfl _ rfl rfl 45 _ Hszm.out Holdm.out (w8_one _) ?_))
  try simp only [Act.put]
  have hB8 : Below w.heap.size w (w7.alloc (.cells (w8 m) 45)) := HB7.out.alloc HB7.out.size _
  have h80 : (w7.alloc (.cells (w8 m) 45)).heap[w.heap.size]? = some (.cells (w8 (List.replicate 16 0)) 50 (0, 0)) := blk_alloc Hz7.out _
  have h8r : Rd (w7.alloc (.cells (w8 m) 45)) (some ⟨w7.heap.size, 0, none⟩) 32 m := ⟨by rw [Hml.out]; omega, by omega, by simp, fun _ => ⟨_, 0, rfl, fun j hj => by rw [Nat.zero_add]; exact cell_w8 (new_at rfl) j hj⟩⟩
  have HB8 := Lib.hid hB8
  have H80 := Lib.hid h80
  have H8r := Lib.hid h8r
  clear hB8 h80 h8r
  refine seg_begin (fun _ => True) [] (by kernel_rfl) ?_
  have HBd : Hid (Below w.heap.size w (w7.alloc (.cells (w8 m) 45)).drew) := Lib.hid HB8.out.drew
  have Hrd : Hid (Rd (w7.alloc (.cells (w8 m) 45)).drew (some ⟨w7.heap.size, 0, none⟩) 32 m) := Lib.hid (H8r.out.drewN 1)
  have Hd0 : Hid ((w7.alloc (.cells (w8 m) 45)).drew.heap[w.heap.size]? = some (.cells (w8 (List.replicate 16 0)) 50 (0, 0))) := Lib.hid H80.out
  clear HB8 H80 H8r
  generalize (w7.alloc (.cells (w8 m) 45)).drew = wd at *
  have htl : (m.take 16).length = 16 := by rw [List.length_take, Hml.out]; rfl
  obtain ⟨mt, hmt⟩ : ∃ mt, mt = m.take 16 := ⟨_, rfl⟩
  rw [← hmt] at htl
  have Hmt := Lib.hid hmt
  have Hszt : Hid ((Tryd.prog.info? 50).map (·.size) = some (w8 mt).size) := Lib.hid (by rw [w8_size, htl]; kernel_rfl)
  clear hmt htl
  (refine seg_take 0 ?_ rfl (by kernel_rfl) (by kernel_rfl) (by kernel_rfl) (by kernel_rfl) (by kernel_rfl) rfl (fun _ _ _ h => h) rfl ?_ ?_; rotate_left; (focus (intro w; go_simp; try with_reducible rfl)); (try simp only [List.getElem_toArray, List.getElem_cons_zero, List.getElem_cons_succ, Act.put, List.setIfInBounds_toArray, List.set_cons_zero, List.set_cons_succ]); refine seg_take 1 ?_ rfl (by kernel_rfl) (by kernel_rfl) (by kernel_rfl) (by kernel_rfl) (by kernel_rfl) rfl (fun _ _ _ h => h) rfl ?_ ?_; rotate_left; (focus (intro w; go_simp; try with_reducible rfl)); (try simp only [List.getElem_toArray, List.getElem_cons_zero, List.getElem_cons_succ, Act.put, List.setIfInBounds_toArray, List.set_cons_zero, List.set_cons_succ]))
  (refine seg_rest [2] _ _ _ (by kernel_rfl) ?_ _ rfl)
  (refine segs_out rfl ?_; (simp only [pick, List.getElem?_toArray, List.getElem_toArray, List.getElem_cons_zero, List.getElem_cons_succ, List.getElem?_cons_zero, List.getElem?_cons_succ, Act.put, List.setIfInBounds_toArray, List.set_cons_zero, List.set_cons_succ]))
  go_wp2_with (first
    | (refine wp_copy8b rfl (.tmp 39) (.tmp 40) rfl w.heap.size 16 16 rfl (some ⟨w7.heap.size, 0, none⟩) 32 32 rfl m Hml.out.symm Hrd.out (List.replicate 16 0) 50 Hd0.out (by decide) (by decide) w.heap.size w HBd.out (Nat.le_refl _) ?_; rw [← Hmt.out]; intro w9 hw9 hb9; have Hw9 := Lib.hid hw9; have HB9 := Lib.hid hb9; clear hw9 hb9)
    | (with_reducible refine wpList_load_row rfl 50 _ rfl w.heap.size rfl _ _ (0, 0) _ Hw9.out Tryd.underlying50 rfl Hszt.out ?_)
    | (with_reducible refine wpList_store_row rfl 50 _ _ rfl w.heap.size _ rfl rfl _ _ Hw9.out Hszt.out rfl (w8_one _) ?_))
  rw [← Hmt.out]
  refine bodyPost_ret (results_row_tmp Tryd.results20 _ _ w.heap.size _ _ (0, 0) _ rfl (setRow_heap _ _ _ _ _ _ Hw9.out) Tryd.underlying50 rfl Hszt.out) rfl ⟨rfl, ?_⟩
  exact below_setRow HB9.out (Nat.le_refl _) _
end Go.Proofs.YtiboflejmnjdhaaDoor
end
section
set_option linter.unusedVariables false
set_option linter.unusedSimpArgs false
set_option maxRecDepth 100000
namespace Go.Proofs.YtiboflejmnjdhaaDoor
open Go Go.RowKit Go.Shelf
attribute [local go_sem] Oper.semAt_some
theorem shaBytes_by8 (V : List Int) (i : Nat) : By8 (shaBytes V i) := fun x hx => by
  obtain ⟨k, _, rfl⟩ := List.mem_map.1 hx
  omega
theorem mac_by8 (F R key b : List Int) : By8 (mac F R key b) := shaBytes_by8 _ _
theorem drv_by8 (F R key : List Int) (n : Int) : By8 (drv F R key n) := fun x hx => mac_by8 F R key _ x (List.mem_of_mem_take hx)
/-- The real way, at its block. -/
structure IsRw (w : World) (wb : Nat) (root : List Int) : Prop where
  ex : ∃ A c, w.heap[wb]? = some (.cells #[.slice A 32 c] 85 (0, 0)) ∧ Rd w A c root
  len : root.length = 32
theorem IsRw.below {w w' : World} {wb : Nat} {root : List Int} (h : IsRw w wb root) (hb : Below w.heap.size w w') : IsRw w' wb root := by
  obtain ⟨A, c, h1, h2⟩ := h.ex
  exact ⟨⟨A, c, below_at hb h1 (blk_lt h1), h2.below hb⟩, h.len⟩
theorem IsRw.keep {S : List Nat} {w w' : World} {wb : Nat} {root : List Int} (h : IsRw w wb root) (hk : Kp S w w') (hS : ∀ b ∈ S, Hard w b) (hd : wb ∉ S) : IsRw w' wb root := by
  obtain ⟨A, c, h1, h2⟩ := h.ex
  exact ⟨⟨A, c, hk.at_ h1 hd, h2.hard hk hS⟩, h.len⟩
set_option maxHeartbeats 1000000 in
theorem cipher_any (F R : List Int) (wb : Nat) (root : List Int) (ep : Int) (h0 : 0 ≤ ep) (h1 : ep ≤ 9007199254740991) (w : World) (hT : Tabs F R w) (hW : IsRw w wb root) :
    Calls Tryd.prog 118 #[.pointer (some ⟨wb, 0, none⟩), .int .i64 ep] w fun e w' => ∃ cb, e = .returned (.tuple #[.pointer (some ⟨cb, 0, none⟩), .int .i64 0]) ∧ w.heap.size ≤ cb ∧ IsC w' cb (drv F R root ep) ∧ Below w.heap.size w w' := by
  obtain ⟨A, c, hb, hr⟩ := hW.ex
  have hl := hW.len
  have c0 := blk_cell (v := .slice A 32 c) hb 0 rfl
  have HT := Lib.hid hT
  have Hr := Lib.hid hr
  obtain ⟨k, hk⟩ : ∃ k, k = drv F R root ep := ⟨_, rfl⟩
  have hkl : k.length = 16 := by rw [hk]; exact drv_len _ _ _ _
  have hkb : By8 k := by rw [hk]; exact drv_by8 _ _ _ _
  have Hd := Lib.hid (derive_any F R A 32 c root hl.symm (by omega) ep h0 h1 w hT hr)
  rw [← hk] at Hd ⊢
  have Hsz : Hid ((Tryd.prog.info? 50).map (·.size) = some (w8 k).size) := Lib.hid (by rw [w8_size, hkl]; kernel_rfl)
  have Hold : Hid ((#[.int .u8 0, .int .u8 0, .int .u8 0, .int .u8 0, .int .u8 0, .int .u8 0, .int .u8 0, .int .u8 0, .int .u8 0, .int .u8 0, .int .u8 0, .int .u8 0, .int .u8 0, .int .u8 0, .int .u8 0, .int .u8 0] : Array Value).size = (w8 k).size) := Lib.hid (by rw [w8_size, hkl]; rfl)
  have Hnew : Hid (∀ W b, W.heap[b]? = some (.cells (w8 k) 50 (0, 0)) → Calls Tryd.prog 21 #[.slice (some ⟨b, 0, none⟩) 16 16] W fun e w' => ∃ cb, e = .returned (.tuple #[.pointer (some ⟨cb, 0, none⟩), .int .i64 0]) ∧ W.heap.size ≤ cb ∧ IsC w' cb k ∧ Below W.heap.size W w') := Lib.hid (fun W b h =>
    aesnew_any (some ⟨b, 0, none⟩) 16 k hkl hkb W ⟨by omega, by omega, by simp, fun _ => ⟨_, 0, rfl, fun j hj => by rw [Nat.zero_add]; exact cell_w8 h j hj⟩⟩)
  clear hb hr hT hW hl hk hkl hkb h0 h1
  go_enter Tryd.func118, Tryd.ntmps118
  go_wp2_with (first
    | (go_at_call 20; go_must (refine Hd.out.mono ?_; rintro e w1 ⟨rfl, hb1⟩; have Hb1 := Lib.hid hb1; clear hb1))
    | (with_reducible refine wpList_store_new rfl 50 _ _ rfl _ rfl rfl 50 _ Hsz.out Hold.out (w8_one _) ?_)
    | (go_at_call 21; go_must (refine (Hnew.out _ _ (new_at rfl)).mono ?_; rintro e w2 ⟨cb, rfl, hcb, hc, hb2⟩; have Hc := Lib.hid hc; have Hb2 := Lib.hid hb2; have Hcb := Lib.hid hcb; clear hc hb2 hcb)))
  go_ret2
  have h1 := Hb1.out.size
  have h2 := Hcb.out
  simp only [World.size_alloc] at h2
  exact ⟨cb, rfl, by omega, Hc.out, (Hb1.out.alloc h1 _).trans (Hb2.out.mono (by simp; omega))⟩
theorem rsize_any (wb : Nat) (w : World) : Calls Tryd.prog 117 #[.pointer (some ⟨wb, 0, none⟩)] w fun e w' => e = .returned (.int .i64 0) ∧ w = w' := by
  go_enter Tryd.func117, Tryd.ntmps117
  go_wp2
  go_ret
  exact ⟨rfl, rfl⟩
end Go.Proofs.YtiboflejmnjdhaaDoor
end
