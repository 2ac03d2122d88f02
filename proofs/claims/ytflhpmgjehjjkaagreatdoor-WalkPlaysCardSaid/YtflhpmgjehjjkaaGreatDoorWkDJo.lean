/- So many hops from a node, walked (Hops). -/
import Derived.Deep.CutBlock
import Derived.Test.YtflhpmgjehjjkaaGreatDoorWkCJo
import Derived.Test.YtflhpmgjehjjkaaGreatDoorApFJo
import Derived.Test.YtflhpmgjehjjkaaGreatDoorInLJo
import Derived.Test.YtflhpmgjehjjkaaGreatDoorAppMJo
namespace Go.Proofs.YtflhpmgjehjjkaaGreatDoor
open Go.RowKit Go.Deep Go.Shelf Go.Sort Go.Maps

theorem appIntF {W : World} {ops : Array Oper} {rest : List Oper} {o : Oper} {a : Act} {Q : Exit → Act → World → Prop} (hgd : o.guard = none) (s x : Operand)
    (ho : o.op = .call { callee := .builtin .append, args := #[s, x], argTypes := #[46, 46] }) (base : Nat) (v : Value) (l : List Int) (hs : a.eval s = v) (hown : W.ownsRow base 3 1 v l.length (l.map (Value.int .i64)))
    (b : Nat) (t : Int) (hx : a.eval x = .slice (some ⟨b, 0, none⟩) 1 1) (hc1 : W.cell? ⟨b, 0, none⟩ = some (.int .i64 t))
    (hbytes : (l.length + 1) * 8 ≤ 140737488355328) (hbase : base ≤ W.heap.size) (w0 : World) (hB : Below base w0 W)
    (h : ∀ v' w', w'.ownsRow base 3 1 v' (l ++ [t]).length ((l ++ [t]).map (Value.int .i64)) → Below base w0 w' → W.grownBy w' v.ownBlock → (∀ p, p < W.heap.size → Apart v p → Apart v' p) → wpList Tryz.prog ops Q rest (a.put o.dst v') w') : wpList Tryz.prog ops Q (o :: rest) a W := by
  obtain ⟨i0, hi, hz0, hz1, hz2⟩ := info_parts infoInt
  have hn : ∀ j u, [Value.int .i64 t][j]? = some u → W.cell? ((⟨b, 0, none⟩ : Addr).add j) = some u := fun j u hu => by
    have : ∀ k, (⟨b, 0, none⟩ : Addr).add k = ⟨b, k, none⟩ := fun k => by unfold Addr.add; split <;> simp_all
    rw [this]
    match j, hu with
    | 0, hu => simp at hu; subst hu; exact hc1
  obtain ⟨v', w', hr, h2, h3, _⟩ := run_append_own (P := Tryz.prog) W base 46 o.type 3 i0 (.int .i64 0) 1 8 Tryz.underlying46 hi hz0 hz1 hz2 rfl (by decide) v l.length (l.map (Value.int .i64)) hown ⟨b, 0, none⟩ 1 1 [.int .i64 t] rfl hn (by simp [Value.oneCell']) (by unfold maxLen; omega) (by omega) hbase
  have hf := append_fresh (P := Tryz.prog) W base 46 o.type 3 i0 (.int .i64 0) 1 8 Tryz.underlying46 hi hz0 hz1 hz2 rfl (by decide) v l.length (l.map (Value.int .i64)) hown ⟨b, 0, none⟩ 1 1 [.int .i64 t] rfl hn (by simp [Value.oneCell']) (by unfold maxLen; omega) (by omega) v' w' hr
  refine Lib.wpList_append_run W hgd s x 46 46 ho v (.slice (some ⟨b, 0, none⟩) 1 1) hs hx v' w' hr (h v' w' ?_ (hB.grown h3 hbase (fun k hk => (hown.lt k hk).1)) h3 hf)
  rw [List.map_append, List.length_append]; exact h2
theorem IntsIn.grown {w w' : World} {ao : Option Addr} {l : List Int} (h : IntsIn w ao l) {r : Option Nat} (hg : w.grownBy w' r) (hr : ∀ b, ao = some ⟨b, 0, none⟩ → r ≠ some b) : IntsIn w' ao l := fun j p hp => by
  obtain ⟨b, e, hc⟩ := h j p hp
  exact ⟨b, e, hg.cell hc fun e' => hr b e e'.symm⟩
theorem IntsIn.frame {F : Nat → Prop} {w w' : World} {ao : Option Addr} {l : List Int} (h : IntsIn w ao l) (hf : Fr F w w') (hn : ∀ b, ao = some ⟨b, 0, none⟩ → ¬ F b) : IntsIn w' ao l := fun j p hp => by
  obtain ⟨b, e, hc⟩ := h j p hp
  exact ⟨b, e, (World.cell?_of_block (a := ⟨b, j, none⟩) (hf.block b (World.block_lt_of_cell? w _ hc) (hn b e))).trans hc⟩
theorem intsIn_get {w : World} {ao : Option Addr} {l : List Int} (h : IntsIn w ao l) {i : Nat} (hi : i < l.length) : ∃ b y, ao = some ⟨b, 0, none⟩ ∧ l[i]? = some y ∧ b < w.heap.size ∧ w.cell? ⟨b, i, none⟩ = some (.int .i64 y) := by
  obtain ⟨k, hk⟩ : ∃ k, l[i]? = some k := ⟨_, List.getElem?_eq_getElem hi⟩
  obtain ⟨b, e, c0⟩ := h i k hk
  exact ⟨b, k, e, hk, World.block_lt_of_cell? w _ c0, c0⟩
set_option maxRecDepth 100000 in
theorem zeroStrW (w : World) : (zeroValue 9).run Tryz.prog w = .ok (.string ⟨#[]⟩) w := by kernel_rfl
set_option maxRecDepth 100000 in
theorem zeroIntW (w : World) : (zeroValue 3).run Tryz.prog w = .ok (.int .i64 0) w := by kernel_rfl
set_option maxRecDepth 100000 in
theorem zeroBooW (w : World) : (zeroValue 4).run Tryz.prog w = .ok (.bool false) w := by kernel_rfl
/-! ### Which numbers have come -/
structure TI (M : List Int) (left : Lit → Bool) (U : List Int) : Prop where
  nod : U.Nodup
  mem : ∀ x, x ∈ U ↔ x ∈ M ∧ left (kI x) = false
theorem kI_sameK (x y : Int) : (kI x).sameKey (kI y) = decide (x = y) := by
  rw [Bool.eq_iff_iff]
  simp only [decide_eq_true_eq]
  constructor
  · intro h; have := WideAt.sameKey_eq h; simpa [kI] using this
  · intro h; subst h; exact WideAt.sameKey_self kI_key
theorem TI.start {M : List Int} {left : Lit → Bool} (h : ∀ x ∈ M, left (kI x) = true) : TI M left [] :=
  ⟨List.nodup_nil, fun x => ⟨(fun h => by cases h), (fun ⟨hx, hl⟩ => by rw [h x hx] at hl; cases hl)⟩⟩
theorem ti_step {left : Lit → Bool} (x y : Int) : (left (kI y) && !(kI y).sameKey (kI x)) = false ↔ left (kI y) = false ∨ y = x := by
  rw [kI_sameK]
  cases left (kI y) <;> simp
theorem TI.yes {M : List Int} {left : Lit → Bool} {U : List Int} (h : TI M left U) {x : Int} (hx : x ∈ M) (hl : left (kI x) = true) : TI M (fun z => left z && !z.sameKey (kI x)) (U ++ [x]) := by
  refine ⟨List.nodup_append.2 ⟨h.nod, by simp, fun a ha b hb e => ?_⟩, fun y => ?_⟩
  · simp at hb; subst hb; subst e
    have := ((h.mem _).1 ha).2
    rw [hl] at this; cases this
  · rw [List.mem_append, h.mem, List.mem_singleton]
    constructor
    · rintro (⟨h1, h2⟩ | rfl)
      · exact ⟨h1, (ti_step x y).2 (.inl h2)⟩
      · exact ⟨hx, (ti_step y y).2 (.inr rfl)⟩
    · rintro ⟨h1, h2⟩
      rcases (ti_step x y).1 h2 with e | e
      · exact .inl ⟨h1, e⟩
      · exact .inr e
theorem TI.done {M : List Int} {left : Lit → Bool} {U : List Int} (h : TI M left U) (hl : ∀ z, left z = false) (hM : M.Nodup) : U.Perm M :=
  (List.perm_ext_iff_of_nodup h.nod hM).2 fun x => by rw [h.mem, hl]; simp
set_option maxRecDepth 100000 in
set_option maxHeartbeats 1000000 in
theorem hops_bad (x h : Int) (word : ByteArray) (w : World) {gb nb : Nat} {eo : Option Addr} {N : List (Int × ByteArray)} {E : List KeyP} (hG : GAt w gb nb eo N E) (hx : i64 x) (hin : N.lookup x = none) :
    Calls Tryz.prog 16 #[.pointer (some ⟨gb, 0, none⟩), .int .i64 x, .string word, .int .i64 h] w fun e w' => e = .returned (.tuple #[.slice none 0 0, errV 7]) ∧ w = w' := by
  obtain ⟨ec, c0, c1, hgl⟩ := hG.cells
  obtain ⟨nn, hN⟩ := hG.nod
  have hlk := hN.look_ok strVT Tryz.underlying119 ⟨#[]⟩ (zeroStrW w) hx
  rw [hin] at hlk
  simp only [Option.getD_none, Option.isSome_none] at hlk
  clear hG hN hin c1
  unfold errV
  go_enter Tryz.func16, Tryz.ntmps16
  go_wp2_with fail
  go_ret2
  exact ⟨rfl, rfl⟩
set_option maxRecDepth 100000 in
set_option maxHeartbeats 8000000 in
theorem hops_ok (x : Int) (h : Nat) (word : ByteArray) (w : World) {gb nb : Nat} {eo : Option Addr} {N : List (Int × ByteArray)} {E : List KeyP} (hG : GAt w gb nb eo N E) (hx : i64 x) (hin : (N.lookup x).isSome = true) (hh : h ≤ 1048576) :
    Calls Tryz.prog 16 #[.pointer (some ⟨gb, 0, none⟩), .int .i64 x, .string word, .int .i64 (h : Nat)] w fun e w' => ∃ v, e = .returned (.tuple #[v, .nilIface]) ∧ w'.ownsRow w.heap.size 3 1 v (hopP E word x h).length ((sortI (hopP E word x h)).map (Value.int .i64)) ∧ Below w.heap.size w w' := by
  have hmm := @run_makeMap Tryz.prog
  obtain ⟨ec, c0, c1, hgl⟩ := hG.cells
  obtain ⟨nn, hN⟩ := hG.nod
  have hlk := hN.look_ok strVT Tryz.underlying119 ⟨#[]⟩ (zeroStrW w) hx
  rw [hin] at hlk
  obtain ⟨v0, hv0⟩ : ∃ v0, v0 = (N.lookup x).getD ⟨#[]⟩ := ⟨_, rfl⟩
  rw [← hv0] at hlk
  obtain ⟨mb, hmb⟩ : ∃ mb, mb = w.heap.size := ⟨_, rfl⟩
  obtain ⟨W1, hW1⟩ : ∃ W1, W1 = w.alloc (.map #[] 0) := ⟨_, rfl⟩
  have ho1 : W1.ownsMap Tryz.prog 3 booR mb 0 (.map []) := by rw [hW1, hmb]; exact World.ownsMap_made _ _ _ _
  obtain ⟨W2, hrun2, ho2, hg2⟩ := ho1.update intLaw Tryz.underlying130 (by decide) (key := .int .i64 x) (val := .bool true) (keyOf_int_mk Tryz.underlying3 (wfI hx)) (booVT.put true)
  have hIM2 : IM booR booD W2 mb 1 [(x, true)] := by
    have := IM.put (L := []) (x := x) (v := true) (fun p hp => by cases hp) (mapOf_nil (kl := fun p : Int × Bool => kI p.1) (dt := fun p => booD p.2)) hx rfl ho2
    simpa using this
  obtain ⟨W3, hW3⟩ : ∃ W3, W3 = W2.alloc (.cells #[.int .i64 x] 3) := ⟨_, rfl⟩
  obtain ⟨lb, hlb⟩ : ∃ lb, lb = W2.heap.size := ⟨_, rfl⟩
  have b01 : Below w.heap.size w W1 := by rw [hW1]; exact (Below.refl _ _).alloc (Nat.le_refl _) _
  have hs1 : W1.heap.size = w.heap.size + 1 := by rw [hW1]; simp
  have b02 : Below w.heap.size w W2 := b01.trans ((Fr.ofGrown hg2).below (fun k _ e => by omega) b01.size)
  have hs2 : W1.heap.size ≤ W2.heap.size := hg2.size
  have b23 : Below W2.heap.size W2 W3 := by rw [hW3]; exact (Below.refl _ _).alloc (Nat.le_refl _) _
  have b03 : Below w.heap.size w W3 := b02.trans (b23.mono b02.size)
  have hIM3 := hIM2.below b23
  have hli : IntsIn W3 (some ⟨lb, 0, none⟩) [x] := fun j p hp => by
    match j, hp with
    | 0, hp => simp at hp; subst hp; exact ⟨lb, rfl, by rw [hW3, hlb]; simp⟩
  have hlm : lb ≠ mb := by omega
  have hh0 : ¬ (h : Int) < 0 := by omega
  have hh1 : ¬ (h : Int) > 1048576 := by omega
  have hEb : ∀ y ∈ E.map (·.b), i64 y := fun y hy => by obtain ⟨k, hk, e⟩ := List.mem_map.1 hy; rw [← e]; exact (hG.eok k hk).2
  have hel := hG.elen
  have HG := Lib.hid hG
  have HW1 := Lib.hid hW1
  have HW3 := Lib.hid hW3
  have HMB := Lib.hid hmb
  have HLB := Lib.hid hlb
  have HB3 := Lib.hid b03
  have HIM := Lib.hid hIM3
  have HLI := Lib.hid hli
  have HEB := Lib.hid hEb
  have HX := Lib.hid hx
  have hml3 : mb < W3.heap.size := hIM3.lt
  clear hG hN hin hv0 ho1 ho2 hg2 hIM2 hIM3 hli b01 b02 b23 b03 hs1 hs2 hW1 hW3 hmb hlb hEb c1 hx
  go_enter Tryz.func16, Tryz.ntmps16
  go_upto_block 0 with (first | (rw [← HW1.out, ← HMB.out]) | (rw [← HW3.out, ← HLB.out]))
  go_cut [] (fun X => IM booR booD X mb (hopP E word x h).length ((hopP E word x h).map fun z => (z, true)) ∧ Below w.heap.size w X)
  case first =>
    go_wp2_with fail
    go_loopw [3, 13] (fun vh v X => ∃ (k : Nat) (ao : Option Addr) (cap : Nat), k ≤ h ∧ vh = .int .i64 ((h : Int) - (k : Int)) ∧ v = .slice ao (hopS E word x k).2.length cap ∧ IntsIn X ao (hopS E word x k).2 ∧ (∀ b, ao = some ⟨b, 0, none⟩ → b ≠ mb) ∧ IM booR booD X mb (hopS E word x k).1.length ((hopS E word x k).1.map fun z => (z, true)) ∧ Below w.heap.size w X) (fun vh _ _ => (intOf vh).toNat)
    case atStart => exact ⟨0, _, _, Nat.zero_le _, by simp, rfl, HLI.out, (fun b e => by cases e; exact hlm), HIM.out, HB3.out⟩
    case round =>
      obtain ⟨k, ao, cap, hk, rfl, rfl, hin, hne, hIM, hB⟩ := hrel
      have hok := hopS_ok E word x k
      have hstep : (hopS E word x k).2 ≠ [] → hopS E word x (k + 1) = hopLine E word (hopS E word x k).1 (hopS E word x k).2 := fun hn => by rw [hopS, if_neg hn]
      have hend : (hopS E word x k).2 = [] ∨ k = h → hopP E word x h = (hopS E word x k).1 := fun hn => by
        rcases hn with hn | hn
        · have := hopS_stay hn (h - k)
          rw [show k + (h - k) = h by omega] at this
          unfold hopP; rw [this]
        · subst hn; rfl
      obtain ⟨had, line, hst⟩ : ∃ a b, hopS E word x k = (a, b) := ⟨_, _, rfl⟩
      rw [hst] at hok hin hIM hstep hend
      rw [hst]
      simp only [] at hin hIM hstep hend
      have HOK := Lib.hid hok
      have HIN := Lib.hid hin
      have HNE := Lib.hid hne
      have HIM1 := Lib.hid hIM
      have HB1 := Lib.hid hB
      have HSTEP := Lib.hid hstep
      have HEND := Lib.hid hend
      clear HIM HLI HB3 hok hin hne hIM hB hstep hend hst
      by_cases hl : line = []
      · subst hl
        have hH := Lib.hid (HEND.out (.inl rfl))
        go_wp2_with fail
        go_meet
        exact ⟨by rw [hH.out]; exact HIM1.out, HB1.out⟩
      · have hll : 0 < line.length := List.length_pos_iff.2 hl
        have hlz : (line.length : Int) > 0 := by omega
        by_cases hkh : k < h
        · have hkz : (h : Int) - (k : Int) > 0 := by omega
          have HS1 := Lib.hid (HSTEP.out hl)
          have hmV := HIM1.out.lt
          have hle4 : line.length ≤ 4001 := by have := HOK.out.len; have := HOK.out.size; simp only [] at *; omega
          generalize wr = V at *
          clear hl HSTEP HEND
          go_wp2_with fail
          go_loopw [14, 56] (fun vm vj X => ∃ j : Nat, j ≤ line.length ∧ vj = .int .i64 j ∧ X.ownsRow V.heap.size 3 1 vm ((line.take j).foldl (hopTo E word) (had, [])).2.length (((line.take j).foldl (hopTo E word) (had, [])).2.map (Value.int .i64)) ∧ IM booR booD X mb ((line.take j).foldl (hopTo E word) (had, [])).1.length (((line.take j).foldl (hopTo E word) (had, [])).1.map fun z => (z, true)) ∧ Fr (· = mb) V X) (fun _ vj _ => line.length - (intOf vj).toNat)
          case atStart => exact ⟨0, Nat.zero_le _, rfl, World.ownsRow_nil _ _ _ _, HIM1.out, Fr.refl _ _⟩
          case round =>
            obtain ⟨j, hj, rfl, hown, hIM, hf⟩ := hrel
            have hokj : HI E x ((line.take j).foldl (hopTo E word) (had, [])) := HI.line HOK.out.fresh
            by_cases hjl : j < line.length
            · obtain ⟨lbk, y0, rfl, hy0, hlbl, d0⟩ := intsIn_get (HIN.out.frame hf HNE.out) hjl
              have hnext : (line.take (j + 1)).foldl (hopTo E word) (had, []) = (nextP E y0 word).foldl hopIn ((line.take j).foldl (hopTo E word) (had, [])) := foldl_take hy0
              obtain ⟨c, hc⟩ : ∃ c, c = (line.take j).foldl (hopTo E word) (had, []) := ⟨_, rfl⟩
              rw [← hc] at hown hIM hokj hnext
              have hBX : Below w.heap.size w wr := HB1.out.trans (hf.below (fun k _ e => by have := HMB.out; omega) HB1.out.size)
              have hCN := next_any y0 word wr (HG.out.below hBX)
              have j0 : (0 : Int) ≤ (j : Int) := by omega
              have j1 : (j : Int) < (line.length : Int) := by omega
              have hmX := hIM.lt
              have HOWN := Lib.hid hown
              have HIM2 := Lib.hid hIM
              have HF := Lib.hid hf
              have HOKJ := Lib.hid hokj
              have HNEXT := Lib.hid hnext
              clear hown hIM hf hokj hnext hy0 hc
              go_wp2_with (go_at_call 56; (with_reducible refine hCN.mono ?_); rintro e x1 ⟨vn, rfl, own1, b1⟩; obtain ⟨an, cn, hvn, hin1⟩ := ownsRow_intsIn own1; have hap1 : ∀ b, an = some ⟨b, 0, none⟩ → wr.heap.size ≤ b ∧ b < x1.heap.size := (fun b e => by subst e; subst hvn; exact own1.lt b rfl); subst hvn; have HIN1 := Lib.hid hin1; have HAP1 := Lib.hid hap1; have HB4 := Lib.hid b1; clear own1 hin1 hap1 b1)
              obtain ⟨nx, hnx⟩ : ∃ nx, nx = nextP E y0 word := ⟨_, rfl⟩
              have hnxs : ∀ y ∈ nx, y ∈ E.map (·.b) := by rw [hnx]; exact next_sub
              have hnxl : nx.length ≤ 4000 := by have := nextP_len E y0 word; rw [hnx]; omega
              rw [← hnx] at HIN1 HNEXT
              rw [← hnx]
              have HNXS := Lib.hid hnxs
              clear hnx hnxs hCN
              go_loopw [14, 65] (fun vm vq X => ∃ q : Nat, q ≤ nx.length ∧ vq = .int .i64 q ∧ X.ownsRow V.heap.size 3 1 vm ((nx.take q).foldl hopIn c).2.length (((nx.take q).foldl hopIn c).2.map (Value.int .i64)) ∧ IM booR booD X mb ((nx.take q).foldl hopIn c).1.length (((nx.take q).foldl hopIn c).1.map fun z => (z, true)) ∧ Fr (· = mb) V X ∧ IntsIn X an nx ∧ (∀ b, an = some ⟨b, 0, none⟩ → Apart vm b ∧ b < X.heap.size)) (fun _ vq _ => nx.length - (intOf vq).toNat)
              case atStart =>
                exact ⟨0, Nat.zero_le _, rfl, ownsRow_below HOWN.out HB4.out, HIM2.out.below HB4.out, HF.out.trans (Fr.new HB4.out), HIN1.out, fun b e => ⟨apart_new HOWN.out (HAP1.out b e).1, (HAP1.out b e).2⟩⟩
              case round =>
                obtain ⟨q, hq, rfl, hown, hIM, hf, hinq, hapq⟩ := hrel
                by_cases hqn : q < nx.length
                · obtain ⟨nbk, y, han, hy, hnl, dy⟩ := intsIn_get hinq hqn
                  have hst : (nx.take (q + 1)).foldl hopIn c = hopIn ((nx.take q).foldl hopIn c) y := foldl_take hy
                  have hokd : HI E x ((nx.take q).foldl hopIn c) := HI.fold HOKJ.out fun z hz => HNXS.out z (List.mem_of_mem_take hz)
                  obtain ⟨d, hd⟩ : ∃ d, d = (nx.take q).foldl hopIn c := ⟨_, rfl⟩
                  rw [← hd] at hown hIM hst hokd
                  have hyi : i64 y := HEB.out y (HNXS.out y (List.mem_of_getElem? hy))
                  have hlk2 := hIM.look booVT Tryz.underlying130 false (zeroBooW wr) hyi
                  rw [(hop_lookup d.1 y).1] at hlk2
                  have hd1 : d.1.length ≤ 4001 := by have := hokd.size; omega
                  have hd2 : d.2.length ≤ 4001 := by have := hokd.len; omega
                  have q0 : (0 : Int) ≤ (q : Int) := by omega
                  have q1 : (q : Int) < (nx.length : Int) := by omega
                  have hmw := hIM.lt
                  have hvs : V.heap.size ≤ wr.heap.size := hf.size
                  have HOWN3 := Lib.hid hown
                  have HIM3 := Lib.hid hIM
                  have HF3 := Lib.hid hf
                  have HIN3 := Lib.hid hinq
                  have HAP3 := Lib.hid hapq
                  have HYI := Lib.hid hyi
                  by_cases hm : y ∈ d.1
                  · rw [decide_eq_true hm] at hlk2
                    have HST := Lib.hid (hst.trans (if_pos hm))
                    clear hst hm hy hd hown hIM hf hinq hapq hyi hokd
                    subst han
                    go_wp2_with fail
                    exact ⟨⟨q + 1, by omega, by go_num, by rw [HST.out]; exact HOWN3.out, by rw [HST.out]; exact HIM3.out, HF3.out, HIN3.out, HAP3.out⟩, by simp [intOf]; omega⟩
                  · rw [decide_eq_false hm] at hlk2
                    have HST := Lib.hid (hst.trans (if_neg hm))
                    have hno := (hop_lookup d.1 y).2.2 hm
                    obtain ⟨D, hownD, hD⟩ := hIM.own
                    have HPUT := Lib.hid fun (w' : World) (ho : w'.ownsMap Tryz.prog 3 booR mb (d.1.length + 1) (D.put (kI y) (booD true))) => IM.put hIM.rng hD hyi hno ho
                    have HOWD := Lib.hid hownD
                    clear hst hm hy hd hown hIM hf hinq hapq hyi hokd hno hownD hD
                    have hnm : nbk ≠ mb := by have := (HAP1.out nbk han).1; omega
                    subst han
                    go_wp2_with (first
                      | (at_mapUpdate; refine wpList_mapUpdate_own _ rfl _ _ _ 130 rfl 3 4 intLaw Tryz.underlying130 booR mb d.1.length D rfl HOWD.out (by unfold maxLen; omega) _ _ _ rfl rfl (keyOf_int_mk Tryz.underlying3 (wfI HYI.out)) (booD true) [] (booVT.put true) ?_; intro w7 hown7 hg7; have HIM7 := Lib.hid (HPUT.out w7 hown7); have hf7 : Fr (· = mb) wr w7 := Fr.ofGrown hg7; have HF7 := Lib.hid hf7; have HOWN7 := Lib.hid (ownsRow_frame HOWN3.out hf7 (fun g hg e => by omega)); have HIN7 := Lib.hid (HIN3.out.frame hf7 (fun b e => by cases e; exact hnm)); have hs7 := hf7.size; clear hown7 hg7 hf7)
                      | (at_builtin; refine appIntF rfl _ _ rfl V.heap.size _ d.2 rfl (HOWN7.out.alloc _) w7.heap.size y rfl (by simp) (by omega) (by simp; omega) w7 ((Below.refl _ _).alloc (by omega) _) ?_; intro v8 w8 hown8 hB8 hg8 hap8))
                    have hs8 := hB8.size
                    refine ⟨⟨q + 1, by omega, by go_num, by rw [HST.out]; exact hown8, ?_, ?_, ?_, fun b e => ?_⟩, by simp [intOf]; omega⟩
                    · rw [HST.out]
                      have := HIM7.out.frame (Fr.ofBelow hB8) (by omega)
                      simpa [List.map_append] using this
                    · exact (HF3.out.trans HF7.out).next (Fr.ofBelow hB8) (fun k hk e => by omega)
                    · exact (HIN7.out.below ((Below.refl _ _).alloc (Nat.le_refl _) _)).grown hg8 fun b e => (HAP3.out b e).1
                    · obtain ⟨h1, h2⟩ := HAP3.out b e
                      exact ⟨hap8 b (by simp; omega) h1, by omega⟩
                · obtain rfl : q = nx.length := by omega
                  have HOWN3 := Lib.hid hown
                  have HIM3 := Lib.hid hIM
                  have HF3 := Lib.hid hf
                  rw [List.take_of_length_le (Nat.le_refl _)] at HOWN3 HIM3
                  rw [← HNEXT.out] at HOWN3 HIM3
                  clear hown hIM hf hinq hapq
                  go_wp2_with fail
                  exact ⟨⟨j + 1, by omega, by go_num, HOWN3.out, HIM3.out, HF3.out⟩, by simp [intOf]; omega⟩
            · obtain rfl : j = line.length := by omega
              rw [List.take_of_length_le (Nat.le_refl _)] at hown hIM
              have e1 : line.foldl (hopTo E word) (had, []) = hopS E word x (k + 1) := HS1.out.symm
              rw [e1] at hown hIM
              obtain ⟨am, cm, hvm, hinm⟩ := ownsRow_intsIn hown
              have hnm : ∀ b, am = some ⟨b, 0, none⟩ → b ≠ mb := fun b e => by subst e; subst hvm; have := (hown.lt b rfl).1; omega
              subst hvm
              have HIM3 := Lib.hid hIM
              have HIN3 := Lib.hid hinm
              have HNM := Lib.hid hnm
              have HB5 := Lib.hid (HB1.out.trans (hf.below (fun k _ e => by have := HMB.out; omega) HB1.out.size))
              clear hown hIM hf hinm hnm e1 hokj
              go_wp2_with fail
              exact ⟨⟨k + 1, am, cm, by omega, by go_num, rfl, HIN3.out, HNM.out, HIM3.out, HB5.out⟩, by simp [intOf]; omega⟩
        · obtain rfl : k = h := by omega
          have hkz : ¬ (k : Int) - (k : Int) > 0 := by omega
          have hH := Lib.hid (HEND.out (.inr rfl))
          go_wp2_with fail
          go_meet
          exact ⟨by rw [hH.out]; exact HIM1.out, HB1.out⟩
  case rest =>
    obtain ⟨hIM, hB⟩ := hcut
    have hnod : (hopP E word x h).Nodup := (hopS_ok E word x h).nod
    have hsize : (hopP E word x h).length ≤ 4001 := by have := (hopS_ok E word x h).size; unfold hopP; omega
    obtain ⟨H, hH⟩ : ∃ H, H = hopP E word x h := ⟨_, rfl⟩
    rw [← hH] at hIM hnod hsize
    have HH := Lib.hid hH
    generalize wc = W9 at *
    obtain ⟨D, hown, hD⟩ := hIM.own
    have hmb9 : mb < W9.heap.size := hown.lt
    have hhas : ∀ y ∈ H, Maps.has D (kI y) = true := fun y hy => (hD.has _ kI_key).2 ⟨(y, true), List.mem_map.2 ⟨y, hy, rfl⟩, rfl⟩
    have hsz := hD.size
    rw [List.length_map] at hsz
    have hrng : ∀ y ∈ H, i64 y := fun y hy => hIM.rng (y, true) (List.mem_map.2 ⟨y, hy, rfl⟩)
    have HST := Lib.hid (TI.start (M := H) hhas)
    have HD := Lib.hid hD
    have HSZ := Lib.hid hsz
    have HRNG := Lib.hid hrng
    have HNOD := Lib.hid hnod
    have HB := Lib.hid hB
    clear hhas hD hsz hrng hIM hB hH hnod HIM HLI HB3
    go_wp2_with (at_range; refine wpList_range_own _ rfl _ 130 rfl 3 4 intLaw Tryz.underlying130 booR mb H.length D rfl hown ?_; intro w5 hrg hgr hs5)
    try go_frame
    have hB5 : Below W9.heap.size W9 w5 := ⟨hgr.os, hgr.tape, hgr.output, hgr.size, fun i hi' => hgr.block i hi' (by simp)⟩
    obtain ⟨r, hr⟩ : ∃ r, r = W9.heap.size := ⟨_, rfl⟩
    have hrg' : w5.ranges Tryz.prog 3 booR mb r H.length D (Maps.has D) (Maps.size D) := by rw [hr]; exact hrg
    have HB5 := Lib.hid hB5
    have HRG' := Lib.hid hrg'
    have HS5 := Lib.hid hs5
    have HRE := Lib.hid hr
    have hmr : mb < r := by rw [hr]; exact hmb9
    rw [← hr]
    clear hgr hB5 hrg hs5 hown hrg' hr
    go_loopw [19] (fun v X => ∃ (left : Lit → Bool) (cnt : Nat) (U : List Int), X.ranges Tryz.prog 3 booR mb r H.length D left cnt ∧ TI H left U ∧ U.length + cnt ≤ H.length ∧ X.ownsRow (r + 1) 3 1 v U.length (U.map (Value.int .i64)) ∧ Below r W9 X ∧ r < X.heap.size ∧ (∀ q, left q = true → Maps.has D q = true)) (fun _ X => X.rangeLeft mb r)
    case atStart => exact ⟨_, _, [], HRG'.out, HST.out, by rw [HSZ.out]; simp, World.ownsRow_nil _ _ _ _, by rw [HRE.out]; exact HB5.out, by have := HS5.out; have := HRE.out; omega, fun _ e => e⟩
    case round =>
      obtain ⟨left, cnt, U, hrg, hTL, hcnt, hownU, hBr, hrl, hsub⟩ := hrel
      have HTL := Lib.hid hTL
      have HBR := Lib.hid hBr
      have HSUB := Lib.hid hsub
      have HRGW := Lib.hid hrg
      clear hTL hBr hsub
      go_wp2_with (at_next; refine wpList_next_raw _ rfl _ rfl 3 intLaw booR mb r H.length D left cnt rfl hrg ?_ ?_)
      · intro hc0 hl0
        have hperm := HTL.out.done hl0 HNOD.out
        have hle := hperm.length_eq
        have hcs := sortSlice_own (r + 1) U _ wr hownU (by omega) (by omega)
        rw [sortI_perm hperm, hle] at hcs
        have HCS := Lib.hid hcs
        clear hl0 hc0 hrg hownU hcs hperm
        go_wp2_with (go_at_call 55; (with_reducible refine HCS.out.mono ?_); rintro e w6 ⟨rfl, own6, b6⟩; have HO6 := Lib.hid own6; have B6 := Lib.hid b6; clear own6 b6)
        go_ret2
        have hb9 : Below w.heap.size w w6 := HB.out.trans ((HBR.out.trans (B6.out.mono (by omega))).mono (by rw [HRE.out]; exact HB.out.size))
        exact ⟨_, rfl, by rw [← HH.out]; exact ownsRow_mono HO6.out (by have := HB.out.size; have := HRE.out; omega), hb9⟩
      · intro key v kl y1 y2 w6 cnt3 hkey hlk3 hv hat hrg3 hlt3 hgr3 hs3 hen
        obtain ⟨p, hp, e⟩ := HD.out.got (intLaw.key hkey) (HSUB.out _ hlk3)
        obtain ⟨y, hy, rfl⟩ := List.mem_map.1 hp
        have ek : key = .int .i64 y := intLaw.inj hkey (by rw [← e]; exact keyOf_int_mk Tryz.underlying3 (wfI (HRNG.out y hy)))
        subst ek
        have ekl : kl = kI y := e.symm
        subst ekl
        have hF3 : Fr (· = r) wr w6 := Fr.ofGrown hgr3
        have hB3 : Below r W9 w6 := HBR.out.trans (hF3.below (B := r) (fun k _ e => by omega) (by omega))
        have hown3 := ownsRow_frame hownU hF3 (fun g hg e => by omega)
        have hsub3 : ∀ q, (left q && !q.sameKey (kI y)) = true → Maps.has D q = true := fun q hq => HSUB.out q (by rw [Bool.and_eq_true] at hq; exact hq.1)
        have HRG3 := Lib.hid hrg3
        have HB3 := Lib.hid hB3
        have HSUB3 := Lib.hid hsub3
        have HO3 := Lib.hid hown3
        have hrl3 : r < w6.heap.size := by omega
        have frame : ∀ W, Below (r + 1) w6 W → W.ranges Tryz.prog 3 booR mb r H.length D (fun z => left z && !z.sameKey (kI y)) cnt3 := fun W hB => ranges_frame HRG3.out (Fr.ofBelow hB) (by omega) (by omega)
        have HFRM := Lib.hid frame
        have hrr : r + 1 ≤ w6.heap.size := by omega
        have HN := Lib.hid (HTL.out.yes hy hlk3)
        clear frame hrg3 hB3 hsub3 hown3 hF3 hgr3 hat hv hkey e hy hlk3 hs3 hp
        go_wp2_with (at_builtin; refine appInt rfl _ _ rfl (r + 1) _ U rfl (HO3.out.alloc _) w6.heap.size y rfl (by simp) (by omega) (by simp; omega) w6 ((Below.refl _ _).alloc hrr _) ?_; intro v8 w8 hown8 hB8 hs8 _)
        go_roundw
        case rel =>
          first
            | exact ⟨_, cnt3, U ++ [y], HFRM.out _ hB8, HN.out, by rw [List.length_append, List.length_singleton]; omega, hown8, HB3.out.trans (hB8.mono (by omega)), by have := hB8.size; omega, HSUB3.out⟩
            | ((repeat apply Exists.intro); exact ⟨⟨_, cnt3, U ++ [y], HFRM.out _ hB8, HN.out, by rw [List.length_append, List.length_singleton]; omega, hown8, HB3.out.trans (hB8.mono (by omega)), by have := hB8.size; omega, HSUB3.out⟩, rfl⟩)
        case measure => rw [(HFRM.out _ hB8).left_eq, HRGW.out.left_eq]; exact hlt3
end Go.Proofs.YtflhpmgjehjjkaaGreatDoor
