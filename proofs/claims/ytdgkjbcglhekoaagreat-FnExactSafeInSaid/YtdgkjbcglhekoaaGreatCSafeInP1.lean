/- Plain laws of the functions. -/
import Derived.Test.YtdgkjbcglhekoaaGreatCSafeInD
import Derived.Test.YtdgkjbcglhekoaaGreatPu2
set_option linter.unusedVariables false
set_option linter.unusedSimpArgs false
namespace Go.Tm.Pu
open Go.Tm
theorem laws_szByteS_eq {u : Nat} (hu : 1099511627776 ≤ u) {x : List Int} {n : Int} (h0 : 0 ≤ n) (h1 : n ≤ 1048576) (hw : (wSl (wInt .u8)) x) : laws_szByteS u x n = some (leftI n x.length) := left_len h0 h1 hw.1
theorem laws_toByteS_eq {u : Nat} (hu : 1099511627776 ≤ u) {x : List Int} (h : x.length ≤ 68719476736) : laws_toByteS u x = some x := by
  have hlen : x.length ≤ 68719476736 := by omega
  unfold laws_toByteS
  rw [chk_len, chk_dec (by rw [Int.toNat_natCast]; omega)]
  simp only [Option.bind_some, Int.toNat_natCast]
  rw [laws_toByteS_l2_w u x _ u (by omega) (by omega), wlist_copy0]
  · rfl
  · intro y i s k hx hi
    unfold laws_toByteS_l2_b
    rw [idx_nat, List.getElem?_eq_getElem hi]; simp
theorem laws_eqByteS_eq {u : Nat} (hu : 1099511627776 ≤ u) {x : List Int} (h : x.length ≤ 68719476736) : laws_eqByteS u x x = some true := by
  have hlen : x.length ≤ 68719476736 := by omega
  unfold laws_eqByteS
  simp only [bne_self_eq_false, cond_false]
  rw [laws_eqByteS_l2_w u x x () u (by omega) (by omega), wlist_all (xs := x) _ x 0 (by simp)]
  · rfl
  · intro y i k hx
    unfold laws_eqByteS_l2_b
    rw [idx_nat, hx]; simp
theorem laws_toRecord_eq (u : Nat) (x : Record) : laws_toRecord u x = some x := by
  unfold laws_toRecord
  rfl
theorem laws_eqRecord_eq (u : Nat) (x : Record) : laws_eqRecord u x x = some true := by
  unfold laws_eqRecord
  simp []
def Put.bulk (x : Put) : Nat := x.fB.length
theorem laws_szPut_eq {u : Nat} (hu : 1099511627776 ≤ u) {x : Put} {n : Int} (h0 : 0 ≤ n) (h1 : n ≤ 1048576) (hw : Put.wf x) : laws_szPut u x n = some (leftI n (Put.bulk x)) := by
  unfold laws_szPut Put.bulk
  rw [laws_szByteS_eq hu h0 h1 hw.2.2.1]
  simp only [Option.bind_some]
  exact left_last
theorem laws_toPut_eq {u : Nat} (hu : 1099511627776 ≤ u) {x : Put} (h : Put.bulk x ≤ 68719476736) : laws_toPut u x = some x := by
  unfold Put.bulk at h
  unfold laws_toPut
  rw [laws_toByteS_eq hu (by omega), laws_toRecord_eq u _]; rfl
theorem laws_eqPut_eq {u : Nat} (hu : 1099511627776 ≤ u) {x : Put} (h : Put.bulk x ≤ 68719476736) : laws_eqPut u x x = some true := by
  unfold Put.bulk at h
  unfold laws_eqPut
  simp [laws_eqByteS_eq hu (x := x.fB) (by omega), laws_eqRecord_eq]
theorem laws_toKid_eq (u : Nat) (x : Kid) : laws_toKid u x = some x := by
  unfold laws_toKid
  rfl
theorem laws_eqKid_eq (u : Nat) (x : Kid) : laws_eqKid u x x = some true := by
  unfold laws_eqKid
  simp []
theorem laws_toSum_eq (u : Nat) (x : Sum) : laws_toSum u x = some x := by
  unfold laws_toSum
  rfl
theorem laws_eqSum_eq (u : Nat) (x : Sum) : laws_eqSum u x x = some true := by
  unfold laws_eqSum
  simp []
theorem laws_szIntS_eq {u : Nat} (hu : 1099511627776 ≤ u) {x : List Int} {n : Int} (h0 : 0 ≤ n) (h1 : n ≤ 1048576) (hw : (wSl (wInt .i64)) x) : laws_szIntS u x n = some (leftI n x.length) := left_len h0 h1 hw.1
theorem laws_toIntS_eq {u : Nat} (hu : 1099511627776 ≤ u) {x : List Int} (h : x.length ≤ 68719476736) : laws_toIntS u x = some x := by
  have hlen : x.length ≤ 68719476736 := by omega
  unfold laws_toIntS
  rw [chk_len, chk_dec (by rw [Int.toNat_natCast]; omega)]
  simp only [Option.bind_some, Int.toNat_natCast]
  rw [laws_toIntS_l2_w u x _ u (by omega) (by omega), wlist_copy0]
  · rfl
  · intro y i s k hx hi
    unfold laws_toIntS_l2_b
    rw [idx_nat, List.getElem?_eq_getElem hi]; simp
theorem laws_eqIntS_eq {u : Nat} (hu : 1099511627776 ≤ u) {x : List Int} (h : x.length ≤ 68719476736) : laws_eqIntS u x x = some true := by
  have hlen : x.length ≤ 68719476736 := by omega
  unfold laws_eqIntS
  simp only [bne_self_eq_false, cond_false]
  rw [laws_eqIntS_l2_w u x x () u (by omega) (by omega), wlist_all (xs := x) _ x 0 (by simp)]
  · rfl
  · intro y i k hx
    unfold laws_eqIntS_l2_b
    rw [idx_nat, hx]; simp
def Tree.bulk (x : Tree) : Nat := x.fUp.length
theorem laws_szTree_eq {u : Nat} (hu : 1099511627776 ≤ u) {x : Tree} {n : Int} (h0 : 0 ≤ n) (h1 : n ≤ 1048576) (hw : Tree.wf x) : laws_szTree u x n = some (leftI n (Tree.bulk x)) := by
  unfold laws_szTree Tree.bulk
  rw [laws_szIntS_eq hu h0 h1 hw.1]
  simp only [Option.bind_some]
  exact left_last
theorem laws_toTree_eq {u : Nat} (hu : 1099511627776 ≤ u) {x : Tree} (h : Tree.bulk x ≤ 68719476736) : laws_toTree u x = some x := by
  unfold Tree.bulk at h
  unfold laws_toTree
  rw [laws_toIntS_eq hu (by omega)]; rfl
theorem laws_eqTree_eq {u : Nat} (hu : 1099511627776 ≤ u) {x : Tree} (h : Tree.bulk x ≤ 68719476736) : laws_eqTree u x x = some true := by
  unfold Tree.bulk at h
  unfold laws_eqTree
  simp [laws_eqIntS_eq hu (x := x.fUp) (by omega)]
theorem laws_toConf_eq (u : Nat) (x : Conf) : laws_toConf u x = some x := by
  unfold laws_toConf
  rfl
theorem laws_eqConf_eq (u : Nat) (x : Conf) : laws_eqConf u x x = some true := by
  unfold laws_eqConf
  simp []
theorem laws_szSumS_eq {u : Nat} (hu : 1099511627776 ≤ u) {x : List Sum} {n : Int} (h0 : 0 ≤ n) (h1 : n ≤ 1048576) (hw : (wSl Sum.wf) x) : laws_szSumS u x n = some (leftI n x.length) := left_len h0 h1 hw.1
theorem laws_toSumS_eq {u : Nat} (hu : 1099511627776 ≤ u) {x : List Sum} (h : x.length ≤ 68719476736) : laws_toSumS u x = some x := by
  have hlen : x.length ≤ 68719476736 := by omega
  unfold laws_toSumS
  rw [chk_len, chk_dec (by rw [Int.toNat_natCast]; omega)]
  simp only [Option.bind_some, Int.toNat_natCast]
  rw [laws_toSumS_l2_w u x _ u (by omega) (by omega), wlist_copy0]
  · rfl
  · intro y i s k hx hi
    unfold laws_toSumS_l2_b
    rw [laws_toSum_eq u _]
    rw [idx_nat, List.getElem?_eq_getElem hi]; simp
theorem laws_eqSumS_eq {u : Nat} (hu : 1099511627776 ≤ u) {x : List Sum} (h : x.length ≤ 68719476736) : laws_eqSumS u x x = some true := by
  have hlen : x.length ≤ 68719476736 := by omega
  unfold laws_eqSumS
  simp only [bne_self_eq_false, cond_false]
  rw [laws_eqSumS_l2_w u x x () u (by omega) (by omega), wlist_all (xs := x) _ x 0 (by simp)]
  · rfl
  · intro y i k hx
    unfold laws_eqSumS_l2_b
    rw [idx_nat, hx]
    simp only [Option.bind_some]
    rw [laws_eqSum_eq]; simp
def Manifest.bulk (x : Manifest) : Nat := x.fSums.length
theorem laws_szManifest_eq {u : Nat} (hu : 1099511627776 ≤ u) {x : Manifest} {n : Int} (h0 : 0 ≤ n) (h1 : n ≤ 1048576) (hw : Manifest.wf x) : laws_szManifest u x n = some (leftI n (Manifest.bulk x)) := by
  unfold laws_szManifest Manifest.bulk
  rw [laws_szSumS_eq hu h0 h1 hw.2.2.2.1]
  simp only [Option.bind_some]
  exact left_last
theorem laws_toManifest_eq {u : Nat} (hu : 1099511627776 ≤ u) {x : Manifest} (h : Manifest.bulk x ≤ 68719476736) : laws_toManifest u x = some x := by
  unfold Manifest.bulk at h
  unfold laws_toManifest
  rw [laws_toSumS_eq hu (by omega)]; rfl
theorem laws_eqManifest_eq {u : Nat} (hu : 1099511627776 ≤ u) {x : Manifest} (h : Manifest.bulk x ≤ 68719476736) : laws_eqManifest u x x = some true := by
  unfold Manifest.bulk at h
  unfold laws_eqManifest
  simp [laws_eqSumS_eq hu (x := x.fSums) (by omega)]
def Build.bulk (x : Build) : Nat := x.fBuf.length
theorem laws_szBuild_eq {u : Nat} (hu : 1099511627776 ≤ u) {x : Build} {n : Int} (h0 : 0 ≤ n) (h1 : n ≤ 1048576) (hw : Build.wf x) : laws_szBuild u x n = some (leftI n (Build.bulk x)) := by
  unfold laws_szBuild Build.bulk
  rw [laws_szByteS_eq hu h0 h1 hw.2.1]
  simp only [Option.bind_some]
  exact left_last
theorem laws_toBuild_eq {u : Nat} (hu : 1099511627776 ≤ u) {x : Build} (h : Build.bulk x ≤ 68719476736) : laws_toBuild u x = some x := by
  unfold Build.bulk at h
  unfold laws_toBuild
  rw [laws_toByteS_eq hu (by omega)]; rfl
theorem laws_eqBuild_eq {u : Nat} (hu : 1099511627776 ≤ u) {x : Build} (h : Build.bulk x ≤ 68719476736) : laws_eqBuild u x x = some true := by
  unfold Build.bulk at h
  unfold laws_eqBuild
  simp [laws_eqByteS_eq hu (x := x.fBuf) (by omega)]
theorem laws_szKidS_eq {u : Nat} (hu : 1099511627776 ≤ u) {x : List Kid} {n : Int} (h0 : 0 ≤ n) (h1 : n ≤ 1048576) (hw : (wSl Kid.wf) x) : laws_szKidS u x n = some (leftI n x.length) := left_len h0 h1 hw.1
theorem laws_toKidS_eq {u : Nat} (hu : 1099511627776 ≤ u) {x : List Kid} (h : x.length ≤ 68719476736) : laws_toKidS u x = some x := by
  have hlen : x.length ≤ 68719476736 := by omega
  unfold laws_toKidS
  rw [chk_len, chk_dec (by rw [Int.toNat_natCast]; omega)]
  simp only [Option.bind_some, Int.toNat_natCast]
  rw [laws_toKidS_l2_w u x _ u (by omega) (by omega), wlist_copy0]
  · rfl
  · intro y i s k hx hi
    unfold laws_toKidS_l2_b
    rw [laws_toKid_eq u _]
    rw [idx_nat, List.getElem?_eq_getElem hi]; simp
theorem laws_eqKidS_eq {u : Nat} (hu : 1099511627776 ≤ u) {x : List Kid} (h : x.length ≤ 68719476736) : laws_eqKidS u x x = some true := by
  have hlen : x.length ≤ 68719476736 := by omega
  unfold laws_eqKidS
  simp only [bne_self_eq_false, cond_false]
  rw [laws_eqKidS_l2_w u x x () u (by omega) (by omega), wlist_all (xs := x) _ x 0 (by simp)]
  · rfl
  · intro y i k hx
    unfold laws_eqKidS_l2_b
    rw [idx_nat, hx]
    simp only [Option.bind_some]
    rw [laws_eqKid_eq]; simp
def Node.bulk (x : Node) : Nat := Manifest.bulk x.fMan + (Build.bulk x.fBld + (x.fKids.length))
theorem laws_szNode_eq {u : Nat} (hu : 1099511627776 ≤ u) {x : Node} {n : Int} (h0 : 0 ≤ n) (h1 : n ≤ 1048576) (hw : Node.wf x) : laws_szNode u x n = some (leftI n (Node.bulk x)) := by
  unfold laws_szNode Node.bulk
  rw [laws_szManifest_eq hu h0 h1 hw.2.2.2.1]
  simp only [Option.bind_some]
  exact left_step (c := Build.bulk x.fBld + (x.fKids.length)) (f := fun r => (laws_szBuild u x.fBld r).bind fun r1 => bif decide (r1 < 0) then some (-1) else ((laws_szKidS u x.fKids r1).bind fun r2 => bif decide (r2 < 0) then some (-1) else (some r2))) (fun v0 h2v0 h3v0 => by rw [laws_szBuild_eq hu h2v0 (by omega) hw.2.2.2.2.1]; simp only [Option.bind_some]; exact left_step (c := x.fKids.length) (f := fun r => (laws_szKidS u x.fKids r).bind fun r2 => bif decide (r2 < 0) then some (-1) else (some r2)) (fun v1 h2v1 h3v1 => by rw [laws_szKidS_eq hu h2v1 (by omega) hw.2.2.2.2.2.2.1]; simp only [Option.bind_some]; exact left_last) h2v0) h0
theorem laws_toNode_eq {u : Nat} (hu : 1099511627776 ≤ u) {x : Node} (h : Node.bulk x ≤ 68719476736) : laws_toNode u x = some x := by
  unfold Node.bulk at h
  unfold laws_toNode
  rw [laws_toManifest_eq hu (by omega), laws_toBuild_eq hu (by omega), laws_toKidS_eq hu (by omega)]; rfl
theorem laws_eqNode_eq {u : Nat} (hu : 1099511627776 ≤ u) {x : Node} (h : Node.bulk x ≤ 68719476736) : laws_eqNode u x x = some true := by
  unfold Node.bulk at h
  unfold laws_eqNode
  simp [laws_eqManifest_eq hu (x := x.fMan) (by omega), laws_eqBuild_eq hu (x := x.fBld) (by omega), laws_eqKidS_eq hu (x := x.fKids) (by omega)]
theorem laws_szPutS_eq {u : Nat} (hu : 1099511627776 ≤ u) {x : List Put} {n : Int} (h0 : 0 ≤ n) (h1 : n ≤ 1048576) (hw : (wSl Put.wf) x) : laws_szPutS u x n = some (leftI n (bulkL Put.bulk x)) :=
  left_list (c := sumL Put.bulk x) (f := fun r => laws_szPutS_l2 u u x r 0) (fun hm r h2 h3 => by
    rw [laws_szPutS_l2_w u x r u (by omega) (by omega)]
    exact wlist_sz (f := Put.bulk) (fun s => rfl) (fun y i s k hy hs0 hs1 => by unfold laws_szPutS_l2_b; rw [laws_szPut_eq hu hs0 hs1 (hw.2 y hy)]; rfl) x 0 r (fun _ h => h) h2 (by omega)) h0 h1 hw.1
theorem laws_toPutS_eq {u : Nat} (hu : 1099511627776 ≤ u) {x : List Put} (h : Pu.bulkL Put.bulk x ≤ 68719476736) : laws_toPutS u x = some x := by
  have hlen : x.length ≤ 68719476736 := by have := bulkL_len (f := Put.bulk) x; omega
  unfold laws_toPutS
  rw [chk_len, chk_dec (by rw [Int.toNat_natCast]; omega)]
  simp only [Option.bind_some, Int.toNat_natCast]
  rw [laws_toPutS_l2_w u x _ u (by omega) (by omega), wlist_copy0]
  · rfl
  · intro y i s k hx hi
    unfold laws_toPutS_l2_b
    rw [laws_toPut_eq hu (Nat.le_trans (bulkL_mem (f := Put.bulk) hx) h)]
    rw [idx_nat, List.getElem?_eq_getElem hi]; simp
theorem laws_eqPutS_eq {u : Nat} (hu : 1099511627776 ≤ u) {x : List Put} (h : Pu.bulkL Put.bulk x ≤ 68719476736) : laws_eqPutS u x x = some true := by
  have hlen : x.length ≤ 68719476736 := by have := bulkL_len (f := Put.bulk) x; omega
  unfold laws_eqPutS
  simp only [bne_self_eq_false, cond_false]
  rw [laws_eqPutS_l2_w u x x () u (by omega) (by omega), wlist_all (xs := x) _ x 0 (by simp)]
  · rfl
  · intro y i k hx
    unfold laws_eqPutS_l2_b
    rw [idx_nat, hx]
    simp only [Option.bind_some]
    rw [laws_eqPut_eq hu (Nat.le_trans (bulkL_mem (f := Put.bulk) (List.mem_of_getElem? hx)) h)]; simp
def Disk.bulk (x : Disk) : Nat := x.fA.length + (x.fB.length + (Pu.bulkL Put.bulk x.fP))
theorem laws_szDisk_eq {u : Nat} (hu : 1099511627776 ≤ u) {x : Disk} {n : Int} (h0 : 0 ≤ n) (h1 : n ≤ 1048576) (hw : Disk.wf x) : laws_szDisk u x n = some (leftI n (Disk.bulk x)) := by
  unfold laws_szDisk Disk.bulk
  rw [laws_szByteS_eq hu h0 h1 hw.1]
  simp only [Option.bind_some]
  exact left_step (c := x.fB.length + (Pu.bulkL Put.bulk x.fP)) (f := fun r => (laws_szByteS u x.fB r).bind fun r1 => bif decide (r1 < 0) then some (-1) else ((laws_szPutS u x.fP r1).bind fun r2 => bif decide (r2 < 0) then some (-1) else (some r2))) (fun v0 h2v0 h3v0 => by rw [laws_szByteS_eq hu h2v0 (by omega) hw.2.1]; simp only [Option.bind_some]; exact left_step (c := Pu.bulkL Put.bulk x.fP) (f := fun r => (laws_szPutS u x.fP r).bind fun r2 => bif decide (r2 < 0) then some (-1) else (some r2)) (fun v1 h2v1 h3v1 => by rw [laws_szPutS_eq hu h2v1 (by omega) hw.2.2.2.1]; simp only [Option.bind_some]; exact left_last) h2v0) h0
theorem laws_toDisk_eq {u : Nat} (hu : 1099511627776 ≤ u) {x : Disk} (h : Disk.bulk x ≤ 68719476736) : laws_toDisk u x = some x := by
  unfold Disk.bulk at h
  unfold laws_toDisk
  rw [laws_toByteS_eq hu (by omega), laws_toByteS_eq hu (by omega), laws_toRecord_eq u _, laws_toPutS_eq hu (by omega)]; rfl
theorem laws_eqDisk_eq {u : Nat} (hu : 1099511627776 ≤ u) {x : Disk} (h : Disk.bulk x ≤ 68719476736) : laws_eqDisk u x x = some true := by
  unfold Disk.bulk at h
  unfold laws_eqDisk
  simp [laws_eqByteS_eq hu (x := x.fA) (by omega), laws_eqByteS_eq hu (x := x.fB) (by omega), laws_eqRecord_eq, laws_eqPutS_eq hu (x := x.fP) (by omega)]
theorem laws_toSent_eq (u : Nat) (x : Sent) : laws_toSent u x = some x := by
  unfold laws_toSent
  rfl
theorem laws_eqSent_eq (u : Nat) (x : Sent) : laws_eqSent u x x = some true := by
  unfold laws_eqSent
  simp []
def Image.bulk (x : Image) : Nat := x.fB.length
theorem laws_szImage_eq {u : Nat} (hu : 1099511627776 ≤ u) {x : Image} {n : Int} (h0 : 0 ≤ n) (h1 : n ≤ 1048576) (hw : Image.wf x) : laws_szImage u x n = some (leftI n (Image.bulk x)) := by
  unfold laws_szImage Image.bulk
  rw [laws_szByteS_eq hu h0 h1 hw.1]
  simp only [Option.bind_some]
  exact left_last
theorem laws_toImage_eq {u : Nat} (hu : 1099511627776 ≤ u) {x : Image} (h : Image.bulk x ≤ 68719476736) : laws_toImage u x = some x := by
  unfold Image.bulk at h
  unfold laws_toImage
  rw [laws_toByteS_eq hu (by omega)]; rfl
theorem laws_eqImage_eq {u : Nat} (hu : 1099511627776 ≤ u) {x : Image} (h : Image.bulk x ≤ 68719476736) : laws_eqImage u x x = some true := by
  unfold Image.bulk at h
  unfold laws_eqImage
  simp [laws_eqByteS_eq hu (x := x.fB) (by omega)]
theorem laws_szImageS_eq {u : Nat} (hu : 1099511627776 ≤ u) {x : List Image} {n : Int} (h0 : 0 ≤ n) (h1 : n ≤ 1048576) (hw : (wSl Image.wf) x) : laws_szImageS u x n = some (leftI n (bulkL Image.bulk x)) :=
  left_list (c := sumL Image.bulk x) (f := fun r => laws_szImageS_l2 u u x r 0) (fun hm r h2 h3 => by
    rw [laws_szImageS_l2_w u x r u (by omega) (by omega)]
    exact wlist_sz (f := Image.bulk) (fun s => rfl) (fun y i s k hy hs0 hs1 => by unfold laws_szImageS_l2_b; rw [laws_szImage_eq hu hs0 hs1 (hw.2 y hy)]; rfl) x 0 r (fun _ h => h) h2 (by omega)) h0 h1 hw.1
theorem laws_toImageS_eq {u : Nat} (hu : 1099511627776 ≤ u) {x : List Image} (h : Pu.bulkL Image.bulk x ≤ 68719476736) : laws_toImageS u x = some x := by
  have hlen : x.length ≤ 68719476736 := by have := bulkL_len (f := Image.bulk) x; omega
  unfold laws_toImageS
  rw [chk_len, chk_dec (by rw [Int.toNat_natCast]; omega)]
  simp only [Option.bind_some, Int.toNat_natCast]
  rw [laws_toImageS_l2_w u x _ u (by omega) (by omega), wlist_copy0]
  · rfl
  · intro y i s k hx hi
    unfold laws_toImageS_l2_b
    rw [laws_toImage_eq hu (Nat.le_trans (bulkL_mem (f := Image.bulk) hx) h)]
    rw [idx_nat, List.getElem?_eq_getElem hi]; simp
theorem laws_eqImageS_eq {u : Nat} (hu : 1099511627776 ≤ u) {x : List Image} (h : Pu.bulkL Image.bulk x ≤ 68719476736) : laws_eqImageS u x x = some true := by
  have hlen : x.length ≤ 68719476736 := by have := bulkL_len (f := Image.bulk) x; omega
  unfold laws_eqImageS
  simp only [bne_self_eq_false, cond_false]
  rw [laws_eqImageS_l2_w u x x () u (by omega) (by omega), wlist_all (xs := x) _ x 0 (by simp)]
  · rfl
  · intro y i k hx
    unfold laws_eqImageS_l2_b
    rw [idx_nat, hx]
    simp only [Option.bind_some]
    rw [laws_eqImage_eq hu (Nat.le_trans (bulkL_mem (f := Image.bulk) (List.mem_of_getElem? hx)) h)]; simp
theorem laws_szNodeS_eq {u : Nat} (hu : 1099511627776 ≤ u) {x : List Node} {n : Int} (h0 : 0 ≤ n) (h1 : n ≤ 1048576) (hw : (wSl Node.wf) x) : laws_szNodeS u x n = some (leftI n (bulkL Node.bulk x)) :=
  left_list (c := sumL Node.bulk x) (f := fun r => laws_szNodeS_l2 u u x r 0) (fun hm r h2 h3 => by
    rw [laws_szNodeS_l2_w u x r u (by omega) (by omega)]
    exact wlist_sz (f := Node.bulk) (fun s => rfl) (fun y i s k hy hs0 hs1 => by unfold laws_szNodeS_l2_b; rw [laws_szNode_eq hu hs0 hs1 (hw.2 y hy)]; rfl) x 0 r (fun _ h => h) h2 (by omega)) h0 h1 hw.1
theorem laws_toNodeS_eq {u : Nat} (hu : 1099511627776 ≤ u) {x : List Node} (h : Pu.bulkL Node.bulk x ≤ 68719476736) : laws_toNodeS u x = some x := by
  have hlen : x.length ≤ 68719476736 := by have := bulkL_len (f := Node.bulk) x; omega
  unfold laws_toNodeS
  rw [chk_len, chk_dec (by rw [Int.toNat_natCast]; omega)]
  simp only [Option.bind_some, Int.toNat_natCast]
  rw [laws_toNodeS_l2_w u x _ u (by omega) (by omega), wlist_copy0]
  · rfl
  · intro y i s k hx hi
    unfold laws_toNodeS_l2_b
    rw [laws_toNode_eq hu (Nat.le_trans (bulkL_mem (f := Node.bulk) hx) h)]
    rw [idx_nat, List.getElem?_eq_getElem hi]; simp
theorem laws_eqNodeS_eq {u : Nat} (hu : 1099511627776 ≤ u) {x : List Node} (h : Pu.bulkL Node.bulk x ≤ 68719476736) : laws_eqNodeS u x x = some true := by
  have hlen : x.length ≤ 68719476736 := by have := bulkL_len (f := Node.bulk) x; omega
  unfold laws_eqNodeS
  simp only [bne_self_eq_false, cond_false]
  rw [laws_eqNodeS_l2_w u x x () u (by omega) (by omega), wlist_all (xs := x) _ x 0 (by simp)]
  · rfl
  · intro y i k hx
    unfold laws_eqNodeS_l2_b
    rw [idx_nat, hx]
    simp only [Option.bind_some]
    rw [laws_eqNode_eq hu (Nat.le_trans (bulkL_mem (f := Node.bulk) (List.mem_of_getElem? hx)) h)]; simp
theorem laws_szDiskS_eq {u : Nat} (hu : 1099511627776 ≤ u) {x : List Disk} {n : Int} (h0 : 0 ≤ n) (h1 : n ≤ 1048576) (hw : (wSl Disk.wf) x) : laws_szDiskS u x n = some (leftI n (bulkL Disk.bulk x)) :=
  left_list (c := sumL Disk.bulk x) (f := fun r => laws_szDiskS_l2 u u x r 0) (fun hm r h2 h3 => by
    rw [laws_szDiskS_l2_w u x r u (by omega) (by omega)]
    exact wlist_sz (f := Disk.bulk) (fun s => rfl) (fun y i s k hy hs0 hs1 => by unfold laws_szDiskS_l2_b; rw [laws_szDisk_eq hu hs0 hs1 (hw.2 y hy)]; rfl) x 0 r (fun _ h => h) h2 (by omega)) h0 h1 hw.1
theorem laws_toDiskS_eq {u : Nat} (hu : 1099511627776 ≤ u) {x : List Disk} (h : Pu.bulkL Disk.bulk x ≤ 68719476736) : laws_toDiskS u x = some x := by
  have hlen : x.length ≤ 68719476736 := by have := bulkL_len (f := Disk.bulk) x; omega
  unfold laws_toDiskS
  rw [chk_len, chk_dec (by rw [Int.toNat_natCast]; omega)]
  simp only [Option.bind_some, Int.toNat_natCast]
  rw [laws_toDiskS_l2_w u x _ u (by omega) (by omega), wlist_copy0]
  · rfl
  · intro y i s k hx hi
    unfold laws_toDiskS_l2_b
    rw [laws_toDisk_eq hu (Nat.le_trans (bulkL_mem (f := Disk.bulk) hx) h)]
    rw [idx_nat, List.getElem?_eq_getElem hi]; simp
theorem laws_eqDiskS_eq {u : Nat} (hu : 1099511627776 ≤ u) {x : List Disk} (h : Pu.bulkL Disk.bulk x ≤ 68719476736) : laws_eqDiskS u x x = some true := by
  have hlen : x.length ≤ 68719476736 := by have := bulkL_len (f := Disk.bulk) x; omega
  unfold laws_eqDiskS
  simp only [bne_self_eq_false, cond_false]
  rw [laws_eqDiskS_l2_w u x x () u (by omega) (by omega), wlist_all (xs := x) _ x 0 (by simp)]
  · rfl
  · intro y i k hx
    unfold laws_eqDiskS_l2_b
    rw [idx_nat, hx]
    simp only [Option.bind_some]
    rw [laws_eqDisk_eq hu (Nat.le_trans (bulkL_mem (f := Disk.bulk) (List.mem_of_getElem? hx)) h)]; simp
def Packet.bulk (x : Packet) : Nat := x.fB.length
theorem laws_szPacket_eq {u : Nat} (hu : 1099511627776 ≤ u) {x : Packet} {n : Int} (h0 : 0 ≤ n) (h1 : n ≤ 1048576) (hw : Packet.wf x) : laws_szPacket u x n = some (leftI n (Packet.bulk x)) := by
  unfold laws_szPacket Packet.bulk
  rw [laws_szByteS_eq hu h0 h1 hw.2.2.1]
  simp only [Option.bind_some]
  exact left_last
theorem laws_toPacket_eq {u : Nat} (hu : 1099511627776 ≤ u) {x : Packet} (h : Packet.bulk x ≤ 68719476736) : laws_toPacket u x = some x := by
  unfold Packet.bulk at h
  unfold laws_toPacket
  rw [laws_toByteS_eq hu (by omega)]; rfl
theorem laws_eqPacket_eq {u : Nat} (hu : 1099511627776 ≤ u) {x : Packet} (h : Packet.bulk x ≤ 68719476736) : laws_eqPacket u x x = some true := by
  unfold Packet.bulk at h
  unfold laws_eqPacket
  simp [laws_eqByteS_eq hu (x := x.fB) (by omega)]
theorem laws_szPacketS_eq {u : Nat} (hu : 1099511627776 ≤ u) {x : List Packet} {n : Int} (h0 : 0 ≤ n) (h1 : n ≤ 1048576) (hw : (wSl Packet.wf) x) : laws_szPacketS u x n = some (leftI n (bulkL Packet.bulk x)) :=
  left_list (c := sumL Packet.bulk x) (f := fun r => laws_szPacketS_l2 u u x r 0) (fun hm r h2 h3 => by
    rw [laws_szPacketS_l2_w u x r u (by omega) (by omega)]
    exact wlist_sz (f := Packet.bulk) (fun s => rfl) (fun y i s k hy hs0 hs1 => by unfold laws_szPacketS_l2_b; rw [laws_szPacket_eq hu hs0 hs1 (hw.2 y hy)]; rfl) x 0 r (fun _ h => h) h2 (by omega)) h0 h1 hw.1
theorem laws_toPacketS_eq {u : Nat} (hu : 1099511627776 ≤ u) {x : List Packet} (h : Pu.bulkL Packet.bulk x ≤ 68719476736) : laws_toPacketS u x = some x := by
  have hlen : x.length ≤ 68719476736 := by have := bulkL_len (f := Packet.bulk) x; omega
  unfold laws_toPacketS
  rw [chk_len, chk_dec (by rw [Int.toNat_natCast]; omega)]
  simp only [Option.bind_some, Int.toNat_natCast]
  rw [laws_toPacketS_l2_w u x _ u (by omega) (by omega), wlist_copy0]
  · rfl
  · intro y i s k hx hi
    unfold laws_toPacketS_l2_b
    rw [laws_toPacket_eq hu (Nat.le_trans (bulkL_mem (f := Packet.bulk) hx) h)]
    rw [idx_nat, List.getElem?_eq_getElem hi]; simp
theorem laws_eqPacketS_eq {u : Nat} (hu : 1099511627776 ≤ u) {x : List Packet} (h : Pu.bulkL Packet.bulk x ≤ 68719476736) : laws_eqPacketS u x x = some true := by
  have hlen : x.length ≤ 68719476736 := by have := bulkL_len (f := Packet.bulk) x; omega
  unfold laws_eqPacketS
  simp only [bne_self_eq_false, cond_false]
  rw [laws_eqPacketS_l2_w u x x () u (by omega) (by omega), wlist_all (xs := x) _ x 0 (by simp)]
  · rfl
  · intro y i k hx
    unfold laws_eqPacketS_l2_b
    rw [idx_nat, hx]
    simp only [Option.bind_some]
    rw [laws_eqPacket_eq hu (Nat.le_trans (bulkL_mem (f := Packet.bulk) (List.mem_of_getElem? hx)) h)]; simp
theorem laws_szSentS_eq {u : Nat} (hu : 1099511627776 ≤ u) {x : List Sent} {n : Int} (h0 : 0 ≤ n) (h1 : n ≤ 1048576) (hw : (wSl Sent.wf) x) : laws_szSentS u x n = some (leftI n x.length) := left_len h0 h1 hw.1
theorem laws_toSentS_eq {u : Nat} (hu : 1099511627776 ≤ u) {x : List Sent} (h : x.length ≤ 68719476736) : laws_toSentS u x = some x := by
  have hlen : x.length ≤ 68719476736 := by omega
  unfold laws_toSentS
  rw [chk_len, chk_dec (by rw [Int.toNat_natCast]; omega)]
  simp only [Option.bind_some, Int.toNat_natCast]
  rw [laws_toSentS_l2_w u x _ u (by omega) (by omega), wlist_copy0]
  · rfl
  · intro y i s k hx hi
    unfold laws_toSentS_l2_b
    rw [laws_toSent_eq u _]
    rw [idx_nat, List.getElem?_eq_getElem hi]; simp
theorem laws_eqSentS_eq {u : Nat} (hu : 1099511627776 ≤ u) {x : List Sent} (h : x.length ≤ 68719476736) : laws_eqSentS u x x = some true := by
  have hlen : x.length ≤ 68719476736 := by omega
  unfold laws_eqSentS
  simp only [bne_self_eq_false, cond_false]
  rw [laws_eqSentS_l2_w u x x () u (by omega) (by omega), wlist_all (xs := x) _ x 0 (by simp)]
  · rfl
  · intro y i k hx
    unfold laws_eqSentS_l2_b
    rw [idx_nat, hx]
    simp only [Option.bind_some]
    rw [laws_eqSent_eq]; simp
def World.bulk (x : World) : Nat := Tree.bulk x.fT + (x.fNew.length + (Pu.bulkL Image.bulk x.fOld + (Pu.bulkL Node.bulk x.fN + (Pu.bulkL Disk.bulk x.fD + (Pu.bulkL Packet.bulk x.fNet + (x.fLog.length))))))
theorem laws_szWorld_eq {u : Nat} (hu : 1099511627776 ≤ u) {x : World} {n : Int} (h0 : 0 ≤ n) (h1 : n ≤ 1048576) (hw : World.wf x) : laws_szWorld u x n = some (leftI n (World.bulk x)) := by
  unfold laws_szWorld World.bulk
  rw [laws_szTree_eq hu h0 h1 hw.2.1]
  simp only [Option.bind_some]
  exact left_step (c := x.fNew.length + (Pu.bulkL Image.bulk x.fOld + (Pu.bulkL Node.bulk x.fN + (Pu.bulkL Disk.bulk x.fD + (Pu.bulkL Packet.bulk x.fNet + (x.fLog.length)))))) (f := fun r => (laws_szByteS u x.fNew r).bind fun r1 => bif decide (r1 < 0) then some (-1) else ((laws_szImageS u x.fOld r1).bind fun r2 => bif decide (r2 < 0) then some (-1) else ((laws_szNodeS u x.fN r2).bind fun r3 => bif decide (r3 < 0) then some (-1) else ((laws_szDiskS u x.fD r3).bind fun r4 => bif decide (r4 < 0) then some (-1) else ((laws_szPacketS u x.fNet r4).bind fun r5 => bif decide (r5 < 0) then some (-1) else ((laws_szSentS u x.fLog r5).bind fun r6 => bif decide (r6 < 0) then some (-1) else (some r6))))))) (fun v0 h2v0 h3v0 => by rw [laws_szByteS_eq hu h2v0 (by omega) hw.2.2.1]; simp only [Option.bind_some]; exact left_step (c := Pu.bulkL Image.bulk x.fOld + (Pu.bulkL Node.bulk x.fN + (Pu.bulkL Disk.bulk x.fD + (Pu.bulkL Packet.bulk x.fNet + (x.fLog.length))))) (f := fun r => (laws_szImageS u x.fOld r).bind fun r2 => bif decide (r2 < 0) then some (-1) else ((laws_szNodeS u x.fN r2).bind fun r3 => bif decide (r3 < 0) then some (-1) else ((laws_szDiskS u x.fD r3).bind fun r4 => bif decide (r4 < 0) then some (-1) else ((laws_szPacketS u x.fNet r4).bind fun r5 => bif decide (r5 < 0) then some (-1) else ((laws_szSentS u x.fLog r5).bind fun r6 => bif decide (r6 < 0) then some (-1) else (some r6)))))) (fun v1 h2v1 h3v1 => by rw [laws_szImageS_eq hu h2v1 (by omega) hw.2.2.2.1]; simp only [Option.bind_some]; exact left_step (c := Pu.bulkL Node.bulk x.fN + (Pu.bulkL Disk.bulk x.fD + (Pu.bulkL Packet.bulk x.fNet + (x.fLog.length)))) (f := fun r => (laws_szNodeS u x.fN r).bind fun r3 => bif decide (r3 < 0) then some (-1) else ((laws_szDiskS u x.fD r3).bind fun r4 => bif decide (r4 < 0) then some (-1) else ((laws_szPacketS u x.fNet r4).bind fun r5 => bif decide (r5 < 0) then some (-1) else ((laws_szSentS u x.fLog r5).bind fun r6 => bif decide (r6 < 0) then some (-1) else (some r6))))) (fun v2 h2v2 h3v2 => by rw [laws_szNodeS_eq hu h2v2 (by omega) hw.2.2.2.2.1]; simp only [Option.bind_some]; exact left_step (c := Pu.bulkL Disk.bulk x.fD + (Pu.bulkL Packet.bulk x.fNet + (x.fLog.length))) (f := fun r => (laws_szDiskS u x.fD r).bind fun r4 => bif decide (r4 < 0) then some (-1) else ((laws_szPacketS u x.fNet r4).bind fun r5 => bif decide (r5 < 0) then some (-1) else ((laws_szSentS u x.fLog r5).bind fun r6 => bif decide (r6 < 0) then some (-1) else (some r6)))) (fun v3 h2v3 h3v3 => by rw [laws_szDiskS_eq hu h2v3 (by omega) hw.2.2.2.2.2.1]; simp only [Option.bind_some]; exact left_step (c := Pu.bulkL Packet.bulk x.fNet + (x.fLog.length)) (f := fun r => (laws_szPacketS u x.fNet r).bind fun r5 => bif decide (r5 < 0) then some (-1) else ((laws_szSentS u x.fLog r5).bind fun r6 => bif decide (r6 < 0) then some (-1) else (some r6))) (fun v4 h2v4 h3v4 => by rw [laws_szPacketS_eq hu h2v4 (by omega) hw.2.2.2.2.2.2.1]; simp only [Option.bind_some]; exact left_step (c := x.fLog.length) (f := fun r => (laws_szSentS u x.fLog r).bind fun r6 => bif decide (r6 < 0) then some (-1) else (some r6)) (fun v5 h2v5 h3v5 => by rw [laws_szSentS_eq hu h2v5 (by omega) hw.2.2.2.2.2.2.2.1]; simp only [Option.bind_some]; exact left_last) h2v4) h2v3) h2v2) h2v1) h2v0) h0
theorem laws_toWorld_eq {u : Nat} (hu : 1099511627776 ≤ u) {x : World} (h : World.bulk x ≤ 68719476736) : laws_toWorld u x = some x := by
  unfold World.bulk at h
  unfold laws_toWorld
  rw [laws_toConf_eq u _, laws_toTree_eq hu (by omega), laws_toByteS_eq hu (by omega), laws_toImageS_eq hu (by omega), laws_toNodeS_eq hu (by omega), laws_toDiskS_eq hu (by omega), laws_toPacketS_eq hu (by omega), laws_toSentS_eq hu (by omega)]; rfl
theorem laws_eqWorld_eq {u : Nat} (hu : 1099511627776 ≤ u) {x : World} (h : World.bulk x ≤ 68719476736) : laws_eqWorld u x x = some true := by
  unfold World.bulk at h
  unfold laws_eqWorld
  simp [laws_eqConf_eq, laws_eqTree_eq hu (x := x.fT) (by omega), laws_eqByteS_eq hu (x := x.fNew) (by omega), laws_eqImageS_eq hu (x := x.fOld) (by omega), laws_eqNodeS_eq hu (x := x.fN) (by omega), laws_eqDiskS_eq hu (x := x.fD) (by omega), laws_eqPacketS_eq hu (x := x.fNet) (by omega), laws_eqSentS_eq hu (x := x.fLog) (by omega)]
def M.within (n a b : Int) : Bool := decide (a ≤ n) && decide (n ≤ b)
theorem within_t {n a b : Int} (h : M.within n a b = true) : a ≤ n ∧ n ≤ b := by simpa [M.within] using h
theorem within_f {n a b : Int} (h : M.within n a b = false) : n < a ∨ b < n := by
  simp [M.within] at h; omega
theorem impl_within_eq (u : Nat) (n a b : Int) : impl_within u n a b = some (M.within n a b) := by
  unfold impl_within M.within
  by_cases h : a ≤ n <;> simp [h]
theorem spec_l1In_eq (u : Nat) (n a b : Int) : spec_l1In u n a b = some (M.within n a b) := by
  unfold spec_l1In M.within
  by_cases h : a ≤ n <;> simp [h]
theorem spec_Least_eq (u : Nat) (a b : Int) : spec_Least u a b = some (min a b) := by
  unfold spec_Least
  by_cases h : b < a <;> simp [h] <;> omega
theorem impl_cloned_eq (u : Nat) {b : List Int} (hl : b.length ≤ 1073741824) : impl_cloned u b = some b := by
  unfold impl_cloned
  rw [chk_dec (by simp; omega), chk_dec (by simp; omega)]
  simp [chk]
theorem toNat_ofInt64 {a : Int} (h1 : 0 ≤ a) (h2 : a < 18446744073709551616) : (BitVec.ofInt 64 a).toNat = a.toNat := by
  rw [BitVec.toNat_ofInt]; omega
theorem bAnd_nat {a b : Nat} (h1 : a < 9223372036854775808) (h2 : b < 9223372036854775808) : bAnd .i64 (a : Int) (b : Int) = ((a &&& b : Nat) : Int) := by
  unfold bAnd
  have e : (BitVec.ofInt (IntKind.bits .i64) (a : Int) &&& BitVec.ofInt (IntKind.bits .i64) (b : Int)).toNat = a &&& b := by
    change (BitVec.ofInt 64 (a : Int) &&& BitVec.ofInt 64 (b : Int)).toNat = _
    rw [BitVec.toNat_and, toNat_ofInt64 (by omega) (by omega), toNat_ofInt64 (by omega) (by omega)]; rfl
  rw [e]
  have : a &&& b ≤ a := Nat.and_le_left
  exact wrap_i64 (by omega) (by omega)
theorem bShl1_nat {i : Nat} (h : i ≤ 62) : bShl .i64 1 (i : Int) = ((2 ^ i : Nat) : Int) := by
  unfold bShl
  rw [show min (Int.toNat (i : Int)) (IntKind.bits .i64) = i by simp [IntKind.bits]; omega]
  have h1 : (2 : Nat) ^ i ≤ 2 ^ 62 := Nat.pow_le_pow_right (by omega) h
  have h2 : (1 : Int) * 2 ^ i = ((2 ^ i : Nat) : Int) := by simp
  rw [h2]
  generalize (2 : Nat) ^ i = p at h1
  exact wrap_i64 (by omega) (by omega)
theorem bShr_nat {a i : Nat} (h : i ≤ 64) : bShr .i64 (a : Int) (i : Int) = ((a / 2 ^ i : Nat) : Int) := by
  rw [bShr_k .i64 _ i h]; simp
def M.setOk (s : Int) : Bool := M.within s 0 1099511627775
def M.isPlace (i : Int) : Bool := M.within i 0 39
def M.inSet (s i : Int) : Bool := M.setOk s && M.isPlace i && s.toNat.testBit i.toNat
theorem impl_SetOk_eq (u : Nat) (s : Int) : impl_SetOk u s = some (M.setOk s) := by simp [impl_SetOk, impl_within_eq, M.setOk]
theorem spec_SetOk_eq (u : Nat) (s : Int) : spec_SetOk u s = some (M.setOk s) := by simp [spec_SetOk, spec_l1In_eq, M.setOk]
theorem impl_isPlace_eq (u : Nat) (s : Int) : impl_isPlace u s = some (M.isPlace s) := by simp [impl_isPlace, impl_within_eq, M.isPlace]
theorem bit_eq {s i : Int} (hs : M.setOk s = true) (hi : M.isPlace i = true) : (bAnd .i64 (bShr .i64 s i) 1 == 1) = s.toNat.testBit i.toNat := by
  have h1 := within_t hs
  have h2 := within_t hi
  obtain ⟨a, rfl⟩ := Int.eq_ofNat_of_zero_le h1.1
  obtain ⟨n, rfl⟩ := Int.eq_ofNat_of_zero_le h2.1
  rw [bShr_nat (by omega)]
  have h3 : a / 2 ^ n ≤ a := Nat.div_le_self a _
  rw [show (1 : Int) = ((1 : Nat) : Int) by rfl, bAnd_nat (by omega) (by omega), Nat.and_one_is_mod]
  simp only [Int.toNat_natCast, Nat.testBit_eq_decide_div_mod_eq]
  generalize a / 2 ^ n = z
  rw [Bool.eq_iff_iff, beq_iff_eq, decide_eq_true_eq]; omega
theorem impl_InSet_eq (u : Nat) (s i : Int) : impl_InSet u s i = some (M.inSet s i) := by
  unfold impl_InSet M.inSet
  simp only [impl_SetOk_eq, impl_isPlace_eq, Option.bind_some]
  cases h1 : M.setOk s with
  | false => simp
  | true =>
    cases h2 : M.isPlace i with
    | false => simp
    | true =>
      have h3 := within_t h2
      rw [chk_dec (by omega)]
      simp [bit_eq h1 h2]
theorem spec_InSet_eq (u : Nat) (s i : Int) : spec_InSet u s i = some (M.inSet s i) := by
  unfold spec_InSet M.inSet
  simp only [spec_SetOk_eq, spec_l1In_eq, Option.bind_some]
  cases h1 : M.setOk s with
  | false => simp
  | true =>
    change ((bif true then (bif M.isPlace i then _ else _) else _) : Option Bool) = _
    cases h2 : M.isPlace i with
    | false => simp
    | true =>
      have h3 := within_t h2
      simp only [cond_true]
      rw [chk_dec (by omega)]
      simp [bit_eq h1 h2]
theorem sliceOK_nat {a b n : Nat} (h1 : a ≤ b) (h2 : b ≤ n) : chk (sliceOK (a : Int) (b : Int) (n : Int)) = some () := by
  have : sliceOK (a : Int) (b : Int) (n : Int) = true := by simp [sliceOK]; omega
  rw [this]; rfl
def M.sameBytes (a b : List Int) : Bool := (strOfNums a).toList == (strOfNums b).toList
theorem spec_SameBytes_eq (u : Nat) (a b : List Int) : spec_SameBytes u a b = some (M.sameBytes a b) := rfl
theorem impl_SameBytes_eq (u : Nat) (a b : List Int) : impl_SameBytes u a b = some (M.sameBytes a b) := rfl
theorem record_beq (x y : Record) : (([x.fGen, x.fSlot, x.fLen] : List Int) == [y.fGen, y.fSlot, y.fLen]) = decide (x = y) := by
  obtain ⟨a0, a1, a2⟩ := x
  obtain ⟨b0, b1, b2⟩ := y
  rw [Bool.eq_iff_iff]; simp
theorem len_beq (a b : Nat) : ((a : Int) == (b : Int)) = (a == b) := by rw [Bool.eq_iff_iff, beq_iff_eq, beq_iff_eq]; omega
def M.idxFrom {α : Type} (f : α → Bool) : List α → Nat → Int
  | [], _ => -1
  | x :: l, i => if f x then i else M.idxFrom f l (i + 1)
theorem wlist_index {α : Type} {fin : Unit → Option Int} {body : α → Nat → Unit → (Unit → Option Int) → Option Int} (f : α → Bool) {xs : List α} (hf : fin () = some (-1)) (hb : ∀ x i k, x ∈ xs → body x i () k = bif f x then some (i : Int) else k ()) :
    wlist fin body xs 0 () = some (M.idxFrom f xs 0) := by
  have : ∀ (l : List α) (i : Nat), (∀ y ∈ l, y ∈ xs) → wlist fin body l i () = some (M.idxFrom f l i) := by
    intro l
    induction l with
    | nil => intro i _; exact hf
    | cons x l ih =>
      intro i h
      simp only [wlist, M.idxFrom]
      rw [hb x i _ (h x (by simp)), ih (i + 1) (fun y hy => h y (by simp [hy]))]
      cases f x <;> simp
  exact this xs 0 (fun _ h => h)
theorem idxFrom_any {α : Type} (f : α → Bool) : ∀ (l : List α) (i : Nat), decide (M.idxFrom f l i ≥ 0) = l.any f := by
  intro l
  induction l with
  | nil => intro i; rfl
  | cons x l ih =>
    intro i
    rw [List.any_cons, ← ih (i + 1), Bool.eq_iff_iff]
    simp only [decide_eq_true_eq, Bool.or_eq_true]
    by_cases h : f x = true
    · simp [M.idxFrom, h]
    · simp [M.idxFrom, h]
def M.recordOk (r : Record) : Bool := M.within r.fGen 0 1000000 && M.within r.fSlot 0 1 && M.within r.fLen 0 240
theorem spec_l9Record_eq (u : Nat) (r : Record) : spec_l9Record u r = some (M.recordOk r) := by
  unfold spec_l9Record M.recordOk
  simp only [spec_l1In_eq, Option.bind_some]
  cases M.within r.fGen 0 1000000 <;> cases M.within r.fSlot 0 1 <;> rfl
theorem impl_isSlot_eq (u : Nat) (n : Int) : impl_isSlot u n = some (M.within n 0 1) := by
  unfold impl_isSlot M.within
  by_cases h0 : n = 0
  · subst h0; rfl
  · by_cases h1 : n = 1
    · subst h1; rfl
    · have e0 : (n == 0) = false := by simpa using h0
      have e1 : (n == 1) = false := by simpa using h1
      simp only [e0, e1, cond_false]
      by_cases h : 0 ≤ n
      · have : ¬ n ≤ 1 := by omega
        simp [this]
      · simp [h]
theorem impl_isRecord_eq (u : Nat) (r : Record) : impl_isRecord u r = some (M.recordOk r) := by
  unfold impl_isRecord impl_isGen M.recordOk
  simp only [impl_within_eq, impl_isSlot_eq, Option.bind_some]
  cases M.within r.fGen 0 1000000 <;> cases M.within r.fSlot 0 1 <;> rfl
def M.slotOf (d : Disk) (n : Int) : List Int := if n = 0 then d.fA else d.fB
theorem impl_slot_eq (u : Nat) (d : Disk) (n : Int) : impl_Disk__slot__frz0 u d n = some (M.slotOf d n) := by
  unfold impl_Disk__slot__frz0 M.slotOf
  by_cases h : n = 0
  · simp [h]
  · have : (n == 0) = false := by simpa using h
    simp [h, this]
theorem spec_slot_eq (u : Nat) (d : Disk) {n : Int} (h : M.within n 0 1 = true) : spec_l9Slot u d n = some (M.slotOf d n) := by
  unfold spec_l9Slot M.slotOf
  have := within_t h
  by_cases h0 : n = 0
  · subst h0; rfl
  · have : n = 1 := by omega
    subst this; rfl
def M.putOk (p : Put) : Bool := if p.fWhat = 2 then (p.fAt == 0) && (p.fB.length == 0) && M.recordOk p.fR else M.within p.fWhat 0 1 && decide (p.fR = ⟨0, 0, 0⟩) && M.within p.fAt 0 (240 - p.fB.length)
theorem record_beq0 (x : Record) : (([x.fGen, x.fSlot, x.fLen] : List Int) == [0, 0, 0]) = decide (x = ⟨0, 0, 0⟩) := record_beq x ⟨0, 0, 0⟩
theorem impl_isPut_eq (u : Nat) {p : Put} (h : p.fB.length ≤ 1048576) : impl_isPut u p = some (M.putOk p) := by
  unfold impl_isPut M.putOk
  rw [bSub_i64 (by omega) (by omega)]
  simp only [impl_isRecord_eq, impl_isSlot_eq, impl_within_eq, Option.bind_some, record_beq0]
  have e : ((p.fB.length : Int) == 0) = (p.fB.length == 0) := len_beq _ 0
  by_cases h2 : p.fWhat = 2
  · simp only [h2, beq_self_eq_true, cond_true, if_true, e]
    cases p.fAt == 0 <;> cases p.fB.length == 0 <;> rfl
  · have : (p.fWhat == 2) = false := by simpa using h2
    simp only [this, cond_false, h2, if_false]
    cases M.within p.fWhat 0 1 <;> cases decide (p.fR = ⟨0, 0, 0⟩) <;> rfl
theorem spec_l9Put_eq (u : Nat) {p : Put} (h : p.fB.length ≤ 1048576) : spec_l9Put u p = some (M.putOk p) := by
  unfold spec_l9Put M.putOk
  simp only [spec_l9Record_eq, spec_l1In_eq, Option.bind_some, record_beq0]
  have e : ((p.fB.length : Int) == 0) = (p.fB.length == 0) := len_beq _ 0
  by_cases h2 : p.fWhat = 2
  · simp only [h2, beq_self_eq_true, cond_true, if_true, e]
    cases p.fAt == 0 <;> cases p.fB.length == 0 <;> rfl
  · have : (p.fWhat == 2) = false := by simpa using h2
    simp only [this, cond_false, h2, if_false]
    cases h3 : M.within p.fAt 0 240 with
    | false =>
      have h4 : M.within p.fAt 0 (240 - p.fB.length) = false := by
        have := within_f h3
        simp [M.within]; omega
      rw [h4]
      cases M.within p.fWhat 0 1 <;> cases decide (p.fR = ⟨0, 0, 0⟩) <;> rfl
    | true =>
      have h3 := within_t h3
      rw [bSub_i64 (by omega) (by omega)]
      have h4 : M.within p.fAt 0 (240 - p.fB.length) = decide ((p.fB.length : Int) ≤ 240 - p.fAt) := by
        rw [Bool.eq_iff_iff]; simp [M.within]; omega
      rw [h4]
      cases M.within p.fWhat 0 1 <;> cases decide (p.fR = ⟨0, 0, 0⟩) <;> cases decide ((p.fB.length : Int) ≤ 240 - p.fAt) <;> rfl
def M.diskOk (d : Disk) : Bool := decide (d.fA.length ≤ 240) && decide (d.fB.length ≤ 240) && M.recordOk d.fR && decide (d.fR.fLen ≤ (M.slotOf d d.fR.fSlot).length) && decide (d.fP.length ≤ 200) && d.fP.all M.putOk
structure M.DOk (d : Disk) : Prop where
  a : d.fA.length ≤ 1048576
  b : d.fB.length ≤ 1048576
  p : d.fP.length ≤ 1048576
  puts : ∀ x ∈ d.fP, x.fB.length ≤ 1048576
theorem dok {d : Disk} (h : Disk.bulk d ≤ 1048576) : M.DOk d := by
  have e : Disk.bulk d = d.fA.length + (d.fB.length + bulkL Put.bulk d.fP) := rfl
  have := bulkL_len (f := Put.bulk) d.fP
  refine ⟨by omega, by omega, by omega, fun x hx => ?_⟩
  have h1 : x.fB.length ≤ bulkL Put.bulk d.fP := bulkL_mem (f := Put.bulk) hx
  omega
theorem contains_DiskOk {u : Nat} (hu : 1099511627776 ≤ u) {l : List Put} (hl : l.length ≤ 1048576) (hp : ∀ x ∈ l, x.fB.length ≤ 1048576) : slices_ContainsFunc___impl_Put_impl_Put__impl_DiskOk_1 u l = some (l.any fun x => !M.putOk x) := by
  unfold slices_ContainsFunc___impl_Put_impl_Put__impl_DiskOk_1 slices_IndexFunc___impl_Put_impl_Put__impl_DiskOk_1
  rw [slices_IndexFunc___impl_Put_impl_Put__impl_DiskOk_1_l2_w u l () u (by omega) (by omega), wlist_index (fun x => !M.putOk x) rfl (fun x i k hx => by unfold slices_IndexFunc___impl_Put_impl_Put__impl_DiskOk_1_l2_b impl_DiskOk_1; rw [impl_isPut_eq u (hp x hx)]; rfl)]
  simp only [Option.bind_some, idxFrom_any]
theorem not_any_not {α : Type} (f : α → Bool) (l : List α) : (!(l.any fun x => !f x)) = l.all f := by
  induction l with
  | nil => rfl
  | cons x l ih => simp only [List.any_cons, List.all_cons, Bool.not_or, Bool.not_not, ih]
theorem gt_not (a b : Int) : decide (a > b) = !decide (a ≤ b) := by
  by_cases h : a ≤ b
  · have : ¬ a > b := by omega
    simp [h, this]
  · have : a > b := by omega
    simp [h, this]
theorem le_nat (a b : Nat) : decide ((a : Int) ≤ (b : Int)) = decide (a ≤ b) := by rw [decide_eq_decide]; omega
theorem impl_DiskOk_eq {u : Nat} (hu : 1099511627776 ≤ u) {d : Disk} (hd : M.DOk d) : impl_DiskOk u d = some (M.diskOk d) := by
  unfold impl_DiskOk impl_DiskOk_j1 M.diskOk
  simp only [impl_isRecord_eq, impl_slot_eq, contains_DiskOk hu hd.p hd.puts, Option.bind_some, not_any_not, gt_not]
  have e1 : decide ((d.fA.length : Int) ≤ 240) = decide (d.fA.length ≤ 240) := le_nat _ 240
  have e2 : decide ((d.fB.length : Int) ≤ 240) = decide (d.fB.length ≤ 240) := le_nat _ 240
  have e3 : decide ((d.fP.length : Int) ≤ 200) = decide (d.fP.length ≤ 200) := le_nat _ 200
  rw [e1, e2, e3]
  cases decide (d.fA.length ≤ 240) <;> cases decide (d.fB.length ≤ 240) <;> cases M.recordOk d.fR <;> cases decide (d.fR.fLen ≤ (M.slotOf d d.fR.fSlot).length) <;> cases decide (d.fP.length ≤ 200) <;> rfl
theorem spec_DiskOk_loop {u : Nat} (hu : 1099511627776 ≤ u) {d : Disk} (hd : M.DOk d) : spec_DiskOk_l3 u u 0 d = some (d.fP.all M.putOk) := by
  have := hd.p
  rw [spec_DiskOk_l3_w u d () u (by omega) (by omega)]
  have : ∀ (l : List Put) (i : Nat), (∀ y ∈ l, y ∈ d.fP) → wlist (spec_DiskOk_l3_f u d) (spec_DiskOk_l3_b u d) l i () = some (l.all M.putOk) := by
    intro l
    induction l with
    | nil => intro i _; rfl
    | cons x l ih =>
      intro i h
      simp only [wlist, spec_DiskOk_l3_b, spec_l9Put_eq u (hd.puts x (h x (by simp))), Option.bind_some, List.all_cons]
      rw [ih (i + 1) (fun y hy => h y (by simp [hy]))]
      cases M.putOk x <;> rfl
  exact this _ 0 (fun _ h => h)
theorem recordOk_slot {r : Record} (h : M.recordOk r = true) : M.within r.fSlot 0 1 = true ∧ 0 ≤ r.fLen ∧ r.fLen ≤ 240 := by
  unfold M.recordOk at h
  simp only [Bool.and_eq_true] at h
  exact ⟨h.1.2, (within_t h.2).1, (within_t h.2).2⟩
theorem spec_DiskOk_eq {u : Nat} (hu : 1099511627776 ≤ u) {d : Disk} (hd : M.DOk d) : spec_DiskOk u d = some (M.diskOk d) := by
  unfold spec_DiskOk spec_DiskOk_j1 M.diskOk
  have e1 : decide ((d.fA.length : Int) ≤ 240) = decide (d.fA.length ≤ 240) := le_nat _ 240
  have e2 : decide ((d.fB.length : Int) ≤ 240) = decide (d.fB.length ≤ 240) := le_nat _ 240
  have e3 : decide ((d.fP.length : Int) ≤ 200) = decide (d.fP.length ≤ 200) := le_nat _ 200
  simp only [spec_l9Record_eq, spec_DiskOk_loop hu hd, Option.bind_some, gt_not, e1, e2, e3, cond_true]
  cases h : M.recordOk d.fR with
  | false => cases decide (d.fA.length ≤ 240) <;> cases decide (d.fB.length ≤ 240) <;> rfl
  | true =>
    rw [spec_slot_eq u d (recordOk_slot h).1]
    simp only [Option.bind_some]
    cases decide (d.fA.length ≤ 240) <;> cases decide (d.fB.length ≤ 240) <;> cases decide (d.fR.fLen ≤ (M.slotOf d d.fR.fSlot).length) <;> cases decide (d.fP.length ≤ 200) <;> rfl
def M.recover (d : Disk) : Int × List Int := if M.diskOk d then (d.fR.fGen, (M.slotOf d d.fR.fSlot).take d.fR.fLen.toNat) else (0, [])
theorem diskOk_parts {d : Disk} (h : M.diskOk d = true) : M.recordOk d.fR = true ∧ d.fR.fLen ≤ (M.slotOf d d.fR.fSlot).length ∧ d.fA.length ≤ 240 ∧ d.fB.length ≤ 240 ∧ d.fP.length ≤ 200 := by
  unfold M.diskOk at h
  simp only [Bool.and_eq_true, decide_eq_true_eq] at h
  obtain ⟨⟨⟨⟨⟨h1, h2⟩, h3⟩, h4⟩, h5⟩, h6⟩ := h
  exact ⟨h3, h4, h1, h2, h5⟩
theorem slotOf_le {d : Disk} (h : M.diskOk d = true) (n : Int) : (M.slotOf d n).length ≤ 240 := by
  have := diskOk_parts h
  unfold M.slotOf; split <;> omega
theorem impl_Recover_eq {u : Nat} (hu : 1099511627776 ≤ u) {d : Disk} (hd : M.DOk d) : impl_Recover u d = some (M.recover d) := by
  unfold impl_Recover M.recover
  rw [impl_DiskOk_eq hu hd, impl_slot_eq]
  simp only [Option.bind_some]
  cases h : M.diskOk d with
  | false => rfl
  | true =>
    have h1 := diskOk_parts h
    have h2 := recordOk_slot h1.1
    have h3 := slotOf_le h d.fR.fSlot
    obtain ⟨n, hn⟩ := Int.eq_ofNat_of_zero_le h2.2.1
    simp only [Bool.not_true, cond_false, if_true]
    rw [hn] at h1 ⊢
    rw [show (0 : Int) = ((0 : Nat) : Int) by rfl, sliceOK_nat (by omega) (by omega)]
    simp only [Option.bind_some, Int.toNat_natCast, List.drop_zero]
    rw [impl_cloned_eq u (by simp; omega)]; rfl
theorem spec_Recover_eq {u : Nat} (hu : 1099511627776 ≤ u) {d : Disk} (hd : M.DOk d) : spec_Recover u d = some (M.recover d) := by
  unfold spec_Recover M.recover
  rw [spec_DiskOk_eq hu hd]
  simp only [Option.bind_some]
  cases h : M.diskOk d with
  | false => rfl
  | true =>
    have h1 := diskOk_parts h
    have h2 := recordOk_slot h1.1
    have h3 := slotOf_le h d.fR.fSlot
    obtain ⟨n, hn⟩ := Int.eq_ofNat_of_zero_le h2.2.1
    rw [spec_slot_eq u d h2.1]
    simp only [Bool.not_true, cond_false, if_true, Option.bind_some]
    rw [hn] at h1 ⊢
    rw [show (0 : Int) = ((0 : Nat) : Int) by rfl, sliceOK_nat (by omega) (by omega)]
    simp only [Option.bind_some, Int.toNat_natCast, List.drop_zero]
    rw [chk_dec (by simp; omega)]; rfl
def M.holds (d : Disk) (gen : Int) (b : List Int) : Bool := ((M.recover d).1 == gen) && M.sameBytes (M.recover d).2 b
theorem impl_Holds_eq {u : Nat} (hu : 1099511627776 ≤ u) {d : Disk} (hd : M.DOk d) (gen : Int) (b : List Int) : impl_Holds u d gen b = some (M.holds d gen b) := by
  unfold impl_Holds M.holds
  rw [impl_Recover_eq hu hd]
  simp only [Option.bind_some, impl_SameBytes_eq]
  cases (M.recover d).1 == gen <;> rfl
theorem spec_Holds_eq {u : Nat} (hu : 1099511627776 ≤ u) {d : Disk} (hd : M.DOk d) (gen : Int) (b : List Int) : spec_Holds u d gen b = some (M.holds d gen b) := by
  unfold spec_Holds M.holds
  rw [spec_Recover_eq hu hd]
  simp only [Option.bind_some, spec_SameBytes_eq]
  cases (M.recover d).1 == gen <;> rfl
structure M.DsOk (w : World) : Prop where
  d : w.fD.length ≤ 1048576
  old : w.fOld.length ≤ 1048576
  ok : ∀ x ∈ w.fD, M.DOk x
theorem dsOk {w : World} (h : World.bulk w ≤ 1048576) : M.DsOk w := by
  have h0 := h
  unfold World.bulk at h0
  have h1 := bulkL_len (f := Image.bulk) w.fOld
  have h3 := bulkL_len (f := Disk.bulk) w.fD
  refine ⟨by omega, by omega, fun x hx => dok ?_⟩
  have := bulkL_mem (f := Disk.bulk) hx
  omega
theorem walk_app_from {α ρ : Type} {fin : List α → Option ρ} {body : Nat → List α → (List α → Option ρ) → Option ρ} (g : Nat → α) (c : Nat) (hb : ∀ i s k, i < c → s.length ≤ i → body i s k = k (s ++ [g i])) :
    ∀ (m i : Nat) (s : List α), i + m ≤ c → s.length ≤ i → walk fin body m i s = fin (s ++ (List.range' i m).map g) := by
  intro m
  induction m with
  | zero => intro i s _ _; simp [walk]
  | succ m ih =>
    intro i s h1 h2
    simp only [walk]
    rw [hb i s _ (by omega) h2, ih (i + 1) _ (by omega) (by simp; omega), List.range'_succ]
    simp
theorem grow_walk {ρ : Type} (J : List Int → Option ρ) (n : Int) (hn : n ≤ 1048576) (L : Nat → List Int → Option ρ) (hL : ∀ k x, L (k + 1) x = bif decide ((x.length : Int) < n) then ((chk (decide ((x.length + ([0] : List Int).length) * 1 ≤ 140737488355328))).bind fun _ => L k (x ++ [0])) else J x) :
    ∀ (m k : Nat) (x : List Int), (x.length + m = n.toNat ∨ (m = 0 ∧ n ≤ x.length)) → m < k → L k x = J (x ++ List.replicate m 0) := by
  intro m
  induction m with
  | zero =>
    intro k x h1 h2
    obtain ⟨k, rfl⟩ : ∃ j, k = j + 1 := ⟨k - 1, by omega⟩
    have e : ¬ ((x.length : Int) < n) := by omega
    rw [hL]; simp [e]
  | succ m ih =>
    intro k x h1 h2
    obtain ⟨k, rfl⟩ : ∃ j, k = j + 1 := ⟨k - 1, by omega⟩
    have e : (x.length : Int) < n := by omega
    rw [hL, chk_dec (by simp; omega)]
    simp only [e, decide_true, cond_true, Option.bind_some]
    rw [ih k _ (by simp; omega) (by omega), List.append_assoc]
    rfl
theorem wlist_push {α ρ : Type} {fin : List α → Option ρ} {body : α → Nat → List α → (List α → Option ρ) → Option ρ} (n : Nat) (p : List α) (hb : ∀ x i s k, x ∈ p → s.length + 1 ≤ n → body x i s k = k (s ++ [x])) :
    ∀ (l : List α) (i : Nat) (s : List α), (∀ x ∈ l, x ∈ p) → s.length + l.length ≤ n → wlist fin body l i s = fin (s ++ l) := by
  intro l
  induction l with
  | nil => intro i s _ _; simp [wlist]
  | cons x l ih =>
    intro i s h1 h2
    simp only [List.length_cons] at h2
    simp only [wlist]
    rw [hb x i s _ (h1 x (by simp)) (by omega), ih (i + 1) _ (fun y hy => h1 y (by simp [hy])) (by simp; omega)]
    simp
theorem spec_l9Copy_eq {u : Nat} (hu : 1099511627776 ≤ u) {d : Disk} (hd : M.DOk d) : spec_l9Copy u d = some d := by
  have h1 := hd.a
  have h2 := hd.b
  have h3 := hd.p
  unfold spec_l9Copy
  rw [chk_dec (by simp; omega), chk_dec (by simp; omega)]
  simp only [Option.bind_some]
  rw [spec_l9Copy_l2_w u d _ u (by omega) (by omega), wlist_push 1048576 d.fP _ d.fP 0 [] (fun _ h => h) (by simp; omega)]
  · rfl
  · intro x i s k hx hs
    have h4 := hd.puts x hx
    unfold spec_l9Copy_l2_b spec_l9CopyPut
    rw [chk_dec (by simp; omega)]
    simp only [Option.bind_some]
    rw [chk_dec (by simp; omega)]; rfl
theorem impl_copyDisk_eq {u : Nat} (hu : 1099511627776 ≤ u) {d : Disk} (hd : M.DOk d) : impl_copyDisk u d = some d := by
  have h1 := hd.a
  have h2 := hd.b
  have h3 := hd.p
  unfold impl_copyDisk
  rw [impl_cloned_eq u (show d.fA.length ≤ 1073741824 by omega), impl_cloned_eq u (show d.fB.length ≤ 1073741824 by omega)]
  simp only [Option.bind_some]
  rw [impl_copyDisk_l2_w u d d.fA d.fB _ u (by omega) (by omega), wlist_push 1048576 d.fP _ d.fP 0 [] (fun _ h => h) (by simp; omega)]
  · rfl
  · intro x i s k hx hs
    have h4 := hd.puts x hx
    unfold impl_copyDisk_l2_b impl_copyPut
    rw [impl_cloned_eq u (show x.fB.length ≤ 1073741824 by omega)]
    simp only [Option.bind_some]
    rw [chk_dec (by simp; omega)]; rfl
def M.lay (b : List Int) (a : Nat) (p : List Int) : List Int := overL (b ++ List.replicate (a + p.length - b.length) 0) p a
theorem overL_eq {x p : List Int} {a : Nat} (h : a + p.length ≤ x.length) : overL x p a = x.take a ++ p ++ x.drop (a + p.length) := by
  unfold overL
  rw [List.take_of_length_le (l := p) (by omega), Nat.min_eq_left (by omega)]
theorem lay_length (b : List Int) (a : Nat) (p : List Int) : (M.lay b a p).length = max b.length (a + p.length) := by
  unfold M.lay
  rw [overL_eq (by simp; omega)]
  simp
  omega
theorem lay_w (u : Nat) (a : Nat) (p : List Int) (ha : a ≤ 1048576) : ∀ (l : List Int) (i : Nat) (s : List Int), a + i + l.length ≤ s.length → s.length ≤ 4194304 → wlist (spec_l9Lay_l3_f u a p) (spec_l9Lay_l3_b u a p) l i s = some (s.take (a + i) ++ l ++ s.drop (a + i + l.length)) := by
  intro l
  induction l with
  | nil => intro i s _ _; simp [wlist, spec_l9Lay_l3_f, spec_l9Lay_j2]
  | cons y l ih =>
    intro i s h1 h2
    simp only [List.length_cons] at h1
    simp only [wlist, spec_l9Lay_l3_b]
    rw [bAdd_i64 (by omega) (by omega), show (a : Int) + (i : Int) = ((a + i : Nat) : Int) by omega, idx_nat, List.getElem?_eq_getElem (by omega), Int.toNat_natCast]
    simp only [Option.bind_some]
    rw [ih (i + 1) _ (by simp; omega) (by simp; omega)]
    have e1 : (s.set (a + i) y).take (a + (i + 1)) = s.take (a + i) ++ [y] := by
      rw [show a + (i + 1) = (a + i) + 1 by omega, List.take_add_one, List.take_set_of_le (Nat.le_refl _)]
      simp [show a + i < s.length by omega]
    have e2 : (s.set (a + i) y).drop (a + (i + 1) + l.length) = s.drop (a + i + (y :: l).length) := by
      rw [List.drop_set_of_lt (by omega)]; simp only [List.length_cons]; congr 1; omega
    rw [e1, e2]; simp
theorem spec_l9Lay_eq {u : Nat} (hu : 1099511627776 ≤ u) {b p : List Int} {a : Nat} (hb : b.length ≤ 1048576) (hp : a + p.length ≤ 1048576) : spec_l9Lay u b a p = some (M.lay b a p) := by
  unfold spec_l9Lay
  rw [chk_dec (by simp; omega)]
  simp only [Option.bind_some, List.nil_append]
  have e : bAdd .i64 (a : Int) (p.length : Int) = ((a + p.length : Nat) : Int) := by rw [bAdd_i64 (by omega) (by omega)]; omega
  rw [grow_walk (fun x => spec_l9Lay_j1 u a p x) ((a + p.length : Nat) : Int) (by omega) (fun k x => spec_l9Lay_l4 u k a p x) (fun k x => by rw [← e]; rfl) (a + p.length - b.length) u b (by rw [Int.toNat_natCast]; omega) (by omega)]
  unfold spec_l9Lay_j1
  rw [spec_l9Lay_l3_w u a p _ u (by omega) (by omega), lay_w u a p (by omega) p 0 _ (by simp; omega) (by simp; omega)]
  unfold M.lay
  rw [overL_eq (by simp; omega)]; simp
def M.onePut (d : Disk) (p : Put) : Disk := if p.fWhat = 2 then ⟨d.fA, d.fB, p.fR, d.fP⟩ else if p.fWhat = 0 then ⟨M.lay d.fA p.fAt.toNat p.fB, d.fB, d.fR, d.fP⟩ else ⟨d.fA, M.lay d.fB p.fAt.toNat p.fB, d.fR, d.fP⟩
theorem putOk_cases {p : Put} (h : M.putOk p = true) : p.fWhat = 2 ∨ ((p.fWhat = 0 ∨ p.fWhat = 1) ∧ 0 ≤ p.fAt ∧ p.fAt + p.fB.length ≤ 240) := by
  unfold M.putOk at h
  by_cases h2 : p.fWhat = 2
  · exact .inl h2
  · rw [if_neg h2] at h
    simp only [Bool.and_eq_true] at h
    have h3 := within_t h.1.1
    have h4 := within_t h.2
    exact .inr ⟨by omega, by omega, by omega⟩
theorem onePut_ok {d : Disk} {p : Put} (hd : M.DOk d) (h : M.putOk p = true) : M.DOk (M.onePut d p) := by
  have h1 := hd.a
  have h2 := hd.b
  unfold M.onePut
  rcases putOk_cases h with h | ⟨h3, h4, h5⟩
  · rw [if_pos h]; exact ⟨hd.a, hd.b, hd.p, hd.puts⟩
  · split
    · exact ⟨hd.a, hd.b, hd.p, hd.puts⟩
    · split
      · exact ⟨by rw [lay_length]; omega, hd.b, hd.p, hd.puts⟩
      · exact ⟨hd.a, by rw [lay_length]; omega, hd.p, hd.puts⟩
theorem spec_OnePut_eq {u : Nat} (hu : 1099511627776 ≤ u) {d : Disk} {p : Put} (hd : M.DOk d) (hp : p.fB.length ≤ 1048576) (h : M.putOk p = true) : spec_OnePut u d p = some (M.onePut d p) := by
  have h1 := hd.a
  have h2 := hd.b
  unfold spec_OnePut M.onePut
  rw [spec_l9Copy_eq hu hd, spec_l9Put_eq u hp, h]
  simp only [Option.bind_some, Bool.not_true, cond_false]
  rcases putOk_cases h with h | ⟨h3, h4, h5⟩
  · rw [h]; rfl
  · obtain ⟨a, ha⟩ := Int.eq_ofNat_of_zero_le h4
    rcases h3 with h3 | h3
    · rw [h3, ha, spec_l9Lay_eq hu h1 (by omega)]; rfl
    · rw [h3, ha, spec_l9Lay_eq hu h2 (by omega)]; rfl
theorem sub_grow (b : List Int) (a n : Nat) : chk (subOK (a : Int) (((b ++ List.replicate (a + n - b.length) (0 : Int)).length : Nat) : Int)) = some () := by
  have : subOK (a : Int) (((b ++ List.replicate (a + n - b.length) (0 : Int)).length : Nat) : Int) = true := by
    simp only [subOK, Bool.and_eq_true, decide_eq_true_eq, List.length_append, List.length_replicate]; omega
  rw [this]; rfl
theorem impl_perform_eq {u : Nat} (hu : 1099511627776 ≤ u) {d : Disk} {p : Put} (hd : M.DOk d) (h : M.putOk p = true) : impl_Disk__perform__own_p0_fP u d p = some (M.onePut d p) := by
  have h1 := hd.a
  have h2 := hd.b
  unfold impl_Disk__perform__own_p0_fP M.onePut impl_Disk__slot__own_p0_fA_p0_fB_p0_fP
  rcases putOk_cases h with h | ⟨h3, h4, h5⟩
  · rw [h]; rfl
  · obtain ⟨a, ha⟩ := Int.eq_ofNat_of_zero_le h4
    have e : bAdd .i64 (a : Int) (p.fB.length : Int) = ((a + p.fB.length : Nat) : Int) := by rw [bAdd_i64 (by omega) (by omega)]; omega
    rcases h3 with h3 | h3
    · rw [h3, ha]
      show impl_Disk__perform__own_p0_fP_l4 u u p d.fA (0, d) = some ⟨M.lay d.fA a p.fB, d.fB, d.fR, d.fP⟩
      rw [grow_walk (fun x => impl_Disk__perform__own_p0_fP_j3 u p x (0, d)) ((a + p.fB.length : Nat) : Int) (by omega) (fun k x => impl_Disk__perform__own_p0_fP_l4 u k p x (0, d)) (fun k x => by rw [← e, ← ha]; rfl) (a + p.fB.length - d.fA.length) u d.fA (by rw [Int.toNat_natCast]; omega) (by omega)]
      unfold impl_Disk__perform__own_p0_fP_j3
      rw [ha, sub_grow d.fA a p.fB.length]
      rfl
    · rw [h3, ha]
      show impl_Disk__perform__own_p0_fP_l2 u u p (1, d) d.fB = some ⟨d.fA, M.lay d.fB a p.fB, d.fR, d.fP⟩
      rw [grow_walk (fun x => impl_Disk__perform__own_p0_fP_j1 u p (1, d) x) ((a + p.fB.length : Nat) : Int) (by omega) (fun k x => impl_Disk__perform__own_p0_fP_l2 u k p (1, d) x) (fun k x => by rw [← e, ← ha]; rfl) (a + p.fB.length - d.fB.length) u d.fB (by rw [Int.toNat_natCast]; omega) (by omega)]
      unfold impl_Disk__perform__own_p0_fP_j1
      rw [ha, sub_grow d.fB a p.fB.length]
      rfl
def M.falls (s : Int) : List Put → Nat → Disk → Disk
  | [], _, d => ⟨d.fA, d.fB, d.fR, []⟩
  | p :: l, i, d => M.falls s l (i + 1) (if M.inSet s i then M.onePut d p else d)
def M.fall (d : Disk) (s : Int) : Disk := if M.diskOk d then M.falls s d.fP 0 d else d
theorem falls_ok (s : Int) : ∀ (l : List Put) (i : Nat) (d : Disk), (∀ p ∈ l, M.putOk p = true) → M.DOk d → M.DOk (M.falls s l i d) := by
  intro l
  induction l with
  | nil => intro i d _ hd; exact ⟨hd.a, hd.b, by simp [M.falls], by simp [M.falls]⟩
  | cons p l ih =>
    intro i d hp hd
    refine ih (i + 1) _ (fun q hq => hp q (by simp [hq])) ?_
    split
    · exact onePut_ok hd (hp p (by simp))
    · exact hd
theorem diskOk_puts {d : Disk} (h : M.diskOk d = true) : ∀ p ∈ d.fP, M.putOk p = true := by
  unfold M.diskOk at h
  simp only [Bool.and_eq_true] at h
  exact List.all_eq_true.1 h.2
theorem fall_ok {d : Disk} (hd : M.DOk d) (s : Int) : M.DOk (M.fall d s) := by
  unfold M.fall
  split
  · rename_i h; exact falls_ok s _ 0 d (diskOk_puts h) hd
  · exact hd
def tup (d : Disk) : List Int × List Int × Int × Int × Int × List Put := (d.fA, d.fB, d.fR.fGen, d.fR.fSlot, d.fR.fLen, d.fP)
theorem impl_Fall_w {u : Nat} (hu : 1099511627776 ≤ u) (s : Int) (d0 : Disk) : ∀ (l : List Put) (i : Nat) (d : Disk), (∀ p ∈ l, M.putOk p = true) → M.DOk d → wlist (impl_Disk__settled__impl_Fall_1_l2_f u s d0) (impl_Disk__settled__impl_Fall_1_l2_b u s d0) l i (tup d) = some (M.falls s l i d) := by
  intro l
  induction l with
  | nil => intro i d _ _; rfl
  | cons p l ih =>
    intro i d hp hd
    have h0 := hp p (by simp)
    simp only [wlist, impl_Disk__settled__impl_Fall_1_l2_b, impl_Disk__settled__impl_Fall_1_j3, impl_Fall_1, impl_InSet_eq, Option.bind_some, M.falls]
    cases hs : M.inSet s i with
    | true =>
      simp only [cond_true, if_true]
      rw [show (Disk.mk (tup d).1 (tup d).2.1 (Record.mk (tup d).2.2.1 (tup d).2.2.2.1 (tup d).2.2.2.2.1) (tup d).2.2.2.2.2) = d by rfl, impl_perform_eq hu hd h0]
      exact ih (i + 1) _ (fun q hq => hp q (by simp [hq])) (onePut_ok hd h0)
    | false =>
      simp only [cond_false, Bool.false_eq_true, if_false]
      exact ih (i + 1) _ (fun q hq => hp q (by simp [hq])) hd
theorem spec_Fall_w {u : Nat} (hu : 1099511627776 ≤ u) (s : Int) {d0 : Disk} (h0 : ∀ p ∈ d0.fP, M.putOk p = true ∧ p.fB.length ≤ 1048576) : ∀ (n i : Nat) (d : Disk), i + n = d0.fP.length → M.DOk d → walk (spec_Fall_l2_f u s d0) (spec_Fall_l2_b u s d0) n i (tup d) = some (M.falls s (d0.fP.drop i) i d) := by
  intro n
  induction n with
  | zero => intro i d h1 _; rw [List.drop_of_length_le (by omega)]; rfl
  | succ n ih =>
    intro i d h1 hd
    have hx := List.getElem?_eq_getElem (l := d0.fP) (i := i) (by omega)
    have h2 := h0 d0.fP[i] (List.getElem_mem (by omega))
    rw [List.drop_eq_getElem_cons (by omega)]
    simp only [walk, spec_Fall_l2_b, spec_Fall_j3, spec_InSet_eq, idx_nat, hx, Option.bind_some, M.falls]
    cases hs : M.inSet s i with
    | true =>
      simp only [cond_true, if_true]
      rw [show (Disk.mk (tup d).1 (tup d).2.1 (Record.mk (tup d).2.2.1 (tup d).2.2.2.1 (tup d).2.2.2.2.1) (tup d).2.2.2.2.2) = d by rfl, spec_OnePut_eq hu hd h2.2 h2.1]
      exact ih (i + 1) _ (by omega) (onePut_ok hd h2.1)
    | false =>
      simp only [cond_false, Bool.false_eq_true, if_false]
      exact ih (i + 1) _ (by omega) hd
theorem impl_Fall_eq {u : Nat} (hu : 1099511627776 ≤ u) {d : Disk} (hd : M.DOk d) (s : Int) : impl_Fall u d s = some (M.fall d s) := by
  have h3 := hd.p
  unfold impl_Fall impl_Disk__settled__impl_Fall_1 M.fall
  rw [impl_copyDisk_eq hu hd, impl_DiskOk_eq hu hd]
  simp only [Option.bind_some]
  cases h : M.diskOk d with
  | false => rfl
  | true =>
    simp only [Bool.not_true, cond_false, if_true]
    have e := impl_Fall_w hu s d d.fP 0 d (diskOk_puts h) hd
    rw [← impl_Disk__settled__impl_Fall_1_l2_w u s d (tup d) u (by omega) (by omega)] at e
    rw [show impl_Disk__settled__impl_Fall_1_l2 u u s d 0 d.fA d.fB d.fR.fGen d.fR.fSlot d.fR.fLen d.fP = _ from e]; rfl
theorem spec_Fall_eq {u : Nat} (hu : 1099511627776 ≤ u) {d : Disk} (hd : M.DOk d) (s : Int) : spec_Fall u d s = some (M.fall d s) := by
  have h3 := hd.p
  unfold spec_Fall M.fall
  rw [spec_l9Copy_eq hu hd, spec_DiskOk_eq hu hd]
  simp only [Option.bind_some]
  cases h : M.diskOk d with
  | false => rfl
  | true =>
    simp only [Bool.not_true, cond_false, if_true]
    have e := spec_Fall_w hu s (d0 := d) (fun p hp => ⟨diskOk_puts h p hp, hd.puts p hp⟩) d.fP.length 0 d (by omega) hd
    have e2 := spec_Fall_l2_w u s d (tup d) u (by omega) (by omega)
    rw [Int.toNat_natCast, e] at e2
    exact e2
def M.allFalls (d : Disk) : List Disk := (List.range' 0 (2 ^ min d.fP.length 6)).map fun (k : Nat) => M.fall d k
theorem pow6 (n : Nat) : 2 ^ min n 6 ≤ 64 := Nat.pow_le_pow_right (n := 2) (i := min n 6) (j := 6) (by decide) (Nat.min_le_right _ _)
theorem min6 (n : Nat) : (if (n : Int) < 6 then (n : Int) else 6) = ((min n 6 : Nat) : Int) := by split <;> omega
theorem impl_AllFalls_eq {u : Nat} (hu : 1099511627776 ≤ u) {d : Disk} (hd : M.DOk d) : impl_AllFalls u d = some (M.allFalls d) := by
  have h3 := hd.p
  have h4 := pow6 d.fP.length
  unfold impl_AllFalls
  rw [impl_AllFalls_l2_w u d [] u (by rw [min6, bShl1_nat (by omega)]; omega) (by rw [min6, bShl1_nat (by omega), Int.toNat_natCast]; omega), min6, bShl1_nat (by omega), Int.toNat_natCast, chk_dec (by omega)]
  simp only [Option.bind_some]
  rw [walk_app_from (fun (k : Nat) => M.fall d k) 1000]
  · rfl
  · intro i s k h1 h2
    unfold impl_AllFalls_l2_b
    rw [impl_Fall_eq hu hd]
    simp only [Option.bind_some]
    rw [chk_dec (by simp; omega)]; rfl
  · omega
  · simp
theorem spec_AllFalls_eq {u : Nat} (hu : 1099511627776 ≤ u) {d : Disk} (hd : M.DOk d) : spec_AllFalls u d = some (M.allFalls d) := by
  have h3 := hd.p
  have h4 := pow6 d.fP.length
  unfold spec_AllFalls
  rw [spec_Least_eq, show min (d.fP.length : Int) 6 = ((min d.fP.length 6 : Nat) : Int) by omega]
  simp only [Option.bind_some]
  have h := walk_of (n := ((2 ^ min d.fP.length 6 : Nat) : Int)) (fin := fun s => some s) (body := fun i s k => (spec_Fall u d (i : Int)).bind fun r9 => (chk (decide ((s.length + ([r9]).length) * 96 ≤ 140737488355328))).bind fun _ => k (s ++ [r9])) (fun k s i => spec_AllFalls_l2 u k s ((min d.fP.length 6 : Nat) : Int) i d) (by omega) (fun k s i => by
    rw [spec_AllFalls_l2, chk_dec (by omega), bShl1_nat (by omega)]; rfl) (2 ^ min d.fP.length 6) u 0 [] (by rw [Int.toNat_natCast]; omega) (by omega)
  rw [show ((0 : Nat) : Int) = 0 by rfl] at h
  rw [h, walk_app_from (fun (k : Nat) => M.fall d k) 1000]
  · rfl
  · intro i s k h1 h2
    simp only [spec_Fall_eq hu hd, Option.bind_some]
    rw [chk_dec (by simp; omega)]; rfl
  · omega
  · simp
theorem allFalls_ok {d : Disk} (hd : M.DOk d) : ∀ x ∈ M.allFalls d, M.DOk x := by
  intro x hx
  unfold M.allFalls at hx
  rw [List.mem_map] at hx
  obtain ⟨k, _, rfl⟩ := hx
  exact fall_ok hd k
theorem allFalls_length (d : Disk) : (M.allFalls d).length ≤ 64 := by
  unfold M.allFalls; rw [List.length_map, List.length_range']; exact pow6 _
def M.holdsAny (d : Disk) (a : List Int) (g : Int) (b : List Int) : Bool := M.holds d 0 a || M.holds d g b
theorem impl_HoldsAny_eq {u : Nat} (hu : 1099511627776 ≤ u) {d : Disk} (hd : M.DOk d) (a : List Int) (g : Int) (b : List Int) : impl_HoldsAny u d a g b = some (M.holdsAny d a g b) := by
  unfold impl_HoldsAny M.holdsAny
  rw [impl_Holds_eq hu hd, impl_Holds_eq hu hd]
  cases M.holds d 0 a <;> rfl
theorem spec_HoldsAny_eq {u : Nat} (hu : 1099511627776 ≤ u) {d : Disk} (hd : M.DOk d) (a : List Int) (g : Int) (b : List Int) : spec_HoldsAny u d a g b = some (M.holdsAny d a g b) := by
  unfold spec_HoldsAny M.holdsAny
  rw [spec_Holds_eq hu hd, spec_Holds_eq hu hd]
  cases M.holds d 0 a <;> rfl
def M.safeFall (d : Disk) (a : List Int) (g : Int) (b : List Int) : Bool := M.holdsAny d a g b && (M.allFalls d).all fun x => M.holdsAny x a g b
theorem impl_SafeFall_eq {u : Nat} (hu : 1099511627776 ≤ u) {d : Disk} (hd : M.DOk d) (a : List Int) (g : Int) (b : List Int) : impl_SafeFall u d a g b = some (M.safeFall d a g b) := by
  have hl := allFalls_length d
  unfold impl_SafeFall M.safeFall slices_ContainsFunc___impl_Disk_impl_Disk__impl_SafeFall_1 slices_IndexFunc___impl_Disk_impl_Disk__impl_SafeFall_1
  rw [impl_HoldsAny_eq hu hd, impl_AllFalls_eq hu hd]
  simp only [Option.bind_some]
  rw [slices_IndexFunc___impl_Disk_impl_Disk__impl_SafeFall_1_l2_w u _ a g b () u (by omega) (by omega), wlist_index (fun x => !M.holdsAny x a g b) rfl (fun x i k hx => by unfold slices_IndexFunc___impl_Disk_impl_Disk__impl_SafeFall_1_l2_b impl_SafeFall_1; rw [impl_HoldsAny_eq hu (allFalls_ok hd x hx)]; rfl)]
  simp only [Option.bind_some, idxFrom_any, not_any_not]
  cases M.holdsAny d a g b <;> rfl
theorem spec_SafeFall_eq {u : Nat} (hu : 1099511627776 ≤ u) {d : Disk} (hd : M.DOk d) (a : List Int) (g : Int) (b : List Int) : spec_SafeFall u d a g b = some (M.safeFall d a g b) := by
  have hl := allFalls_length d
  unfold spec_SafeFall M.safeFall
  rw [spec_AllFalls_eq hu hd]
  simp only [Option.bind_some]
  rw [spec_SafeFall_l2_w u a g b _ d () u (by omega) (by omega)]
  have : ∀ (l : List Disk) (i : Nat), (∀ x ∈ l, M.DOk x) → wlist (spec_SafeFall_l2_f u a g b (M.allFalls d) d) (spec_SafeFall_l2_b u a g b (M.allFalls d) d) l i () = some (M.holdsAny d a g b && l.all fun x => M.holdsAny x a g b) := by
    intro l
    induction l with
    | nil => intro i _; simp only [wlist, spec_SafeFall_l2_f, spec_SafeFall_j1, spec_HoldsAny_eq hu hd, Option.bind_some, List.all_nil, Bool.and_true]
    | cons x l ih =>
      intro i h
      simp only [wlist, spec_SafeFall_l2_b, spec_HoldsAny_eq hu (h x (by simp)), Option.bind_some, List.all_cons]
      rw [ih (i + 1) (fun y hy => h y (by simp [hy]))]
      cases M.holdsAny x a g b
      · simp
      · simp
  exact this _ 0 (allFalls_ok hd)
def M.safeAt (w : World) (i : Nat) : Bool := match w.fD[i]?, w.fOld[i]? with
  | some d, some x => M.safeFall d x.fB 1 w.fNew
  | _, _ => true
theorem impl_SafeIn_w {u : Nat} (hu : 1099511627776 ≤ u) {w : World} (hw : M.DsOk w) : ∀ (m i k : Nat), (i + m = min w.fOld.length w.fD.length ∨ (m = 0 ∧ min w.fOld.length w.fD.length ≤ i)) → m < k → impl_SafeIn_l2 u k i w = some ((List.range' i m).all (M.safeAt w)) := by
  have h1 := hw.d
  have h2 := hw.old
  have e0 : (if (w.fOld.length : Int) < (w.fD.length : Int) then (w.fOld.length : Int) else (w.fD.length : Int)) = ((min w.fOld.length w.fD.length : Nat) : Int) := by split <;> omega
  intro m
  induction m with
  | zero =>
    intro i k h3 h4
    obtain ⟨k, rfl⟩ : ∃ j, k = j + 1 := ⟨k - 1, by omega⟩
    have e : ¬ ((i : Int) < ((min w.fOld.length w.fD.length : Nat) : Int)) := by omega
    unfold impl_SafeIn_l2
    rw [e0]
    simp only [e, decide_false, cond_false]; rfl
  | succ m ih =>
    intro i k h3 h4
    obtain ⟨k, rfl⟩ : ∃ j, k = j + 1 := ⟨k - 1, by omega⟩
    have e : (i : Int) < ((min w.fOld.length w.fD.length : Nat) : Int) := by omega
    have e1 := List.getElem?_eq_getElem (l := w.fD) (i := i) (by omega)
    have e2 := List.getElem?_eq_getElem (l := w.fOld) (i := i) (by omega)
    have hd := hw.ok _ (List.getElem_mem (l := w.fD) (n := i) (by omega))
    unfold impl_SafeIn_l2
    rw [e0]
    simp only [e, decide_true, cond_true, idx_nat, e1, e2, Option.bind_some, impl_SafeFall_eq hu hd]
    rw [bAdd_succ (by omega), ih (i + 1) k (by omega) (by omega), List.range'_succ, List.all_cons]
    have e3 : M.safeAt w i = M.safeFall w.fD[i] w.fOld[i].fB 1 w.fNew := by unfold M.safeAt; rw [e1, e2]
    rw [e3]
    cases M.safeFall w.fD[i] w.fOld[i].fB 1 w.fNew <;> rfl
theorem spec_SafeIn_w {u : Nat} (hu : 1099511627776 ≤ u) {w : World} (hw : M.DsOk w) : ∀ (m i k : Nat), (i + m = min w.fOld.length w.fD.length ∨ (m = 0 ∧ min w.fOld.length w.fD.length ≤ i)) → m < k → spec_SafeIn_l2 u k i w = some ((List.range' i m).all (M.safeAt w)) := by
  have h1 := hw.d
  have h2 := hw.old
  intro m
  induction m with
  | zero =>
    intro i k h3 h4
    obtain ⟨k, rfl⟩ : ∃ j, k = j + 1 := ⟨k - 1, by omega⟩
    unfold spec_SafeIn_l2 spec_SafeIn_j3 spec_SafeIn_j1
    by_cases e : (i : Int) < (w.fD.length : Int)
    · have e' : ¬ ((i : Int) < (w.fOld.length : Int)) := by omega
      simp only [e, e', decide_true, decide_false, cond_true, cond_false]; rfl
    · simp only [e, decide_false, cond_false]; rfl
  | succ m ih =>
    intro i k h3 h4
    obtain ⟨k, rfl⟩ : ∃ j, k = j + 1 := ⟨k - 1, by omega⟩
    have e : (i : Int) < (w.fD.length : Int) := by omega
    have e' : (i : Int) < (w.fOld.length : Int) := by omega
    have e1 := List.getElem?_eq_getElem (l := w.fD) (i := i) (by omega)
    have e2 := List.getElem?_eq_getElem (l := w.fOld) (i := i) (by omega)
    have hd := hw.ok _ (List.getElem_mem (l := w.fD) (n := i) (by omega))
    unfold spec_SafeIn_l2 spec_SafeIn_j3
    simp only [e, e', decide_true, cond_true, idx_nat, e1, e2, Option.bind_some, spec_SafeFall_eq hu hd]
    rw [bAdd_succ (by omega), ih (i + 1) k (by omega) (by omega), List.range'_succ, List.all_cons]
    have e3 : M.safeAt w i = M.safeFall w.fD[i] w.fOld[i].fB 1 w.fNew := by unfold M.safeAt; rw [e1, e2]
    rw [e3]
    cases M.safeFall w.fD[i] w.fOld[i].fB 1 w.fNew <;> rfl
theorem SafeIn_same {u : Nat} (hu : 1099511627776 ≤ u) {p0 : World} (w0 : World.wf p0) (b0 : World.bulk p0 ≤ 1048576) : ∃ v, spec_SafeIn u p0 = some v ∧ impl_SafeIn u p0 = some v := by
  have hw := dsOk b0
  have h1 := hw.d
  have h2 := hw.old
  have a1 := spec_SafeIn_w hu hw (min p0.fOld.length p0.fD.length - 1) 1 u (by omega) (by omega)
  have a2 := impl_SafeIn_w hu hw (min p0.fOld.length p0.fD.length - 1) 1 u (by omega) (by omega)
  exact ⟨_, a1, a2⟩
theorem SafeIn_law (p0 : World) (h : World.wf p0 ∧ True) : laws_FnExactSafeIn 1099511627776 p0 = some true := by
  obtain ⟨w0, _⟩ := h
  have hu : 1099511627776 ≤ 1099511627776 := Nat.le_refl _
  unfold laws_FnExactSafeIn
  rw [laws_szWorld_eq hu (x := p0) (n := 1048576) (by omega) (by omega) w0]
  simp only [Option.bind_some]
  by_cases b0 : ((World.bulk p0 : Nat) : Int) ≤ 1048576
  · have c0 : ¬ (1048576 - ((World.bulk p0 : Nat) : Int) < 0) := by omega
    rw [leftI_pos b0]
    simp only [c0, decide_false, cond_false]
    obtain ⟨v, e1, e2⟩ := SafeIn_same hu w0 (show _ ≤ 1048576 by omega)
    simp only [laws_toWorld_eq hu (x := p0) (by omega), laws_eqWorld_eq hu (x := p0) (by omega), e1, e2, Option.bind_some, bne_self_eq_false, beq_self_eq_true, Bool.not_true, cond_false]
  · rw [leftI_neg b0]; rfl
end Go.Tm.Pu
