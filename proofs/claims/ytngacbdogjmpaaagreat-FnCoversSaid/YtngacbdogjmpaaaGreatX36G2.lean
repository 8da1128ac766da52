import Derived.Test.YtngacbdogjmpaaaGreatX36S
set_option linter.unusedVariables false
set_option maxRecDepth 100000
namespace Go.Proofs
open Go.Abs
open Value IntKind
noncomputable section
namespace F51
variable (P:PT)
abbrev k0:Sk:=[(9,.v)]
def B1:Y k0:=fun a H=>
  P a H
abbrev k1:Sk:=[(1,.v),(5,.v),(7,.v),(8,.v),(9,.v),(10,J)]
def B3 (P:PT) (b:Y k1):Y k1:=fun c d e f g a H=>
  b c d e f g (i64.wrap (a+1)) H
abbrev k2:Sk:=[(1,.v),(5,.v),(7,.v),(8,.v),(9,.v),(10,J),(11,.v)]
def B4 (c:Y k1):Y k2:=fun d e f g h b a H=>
  pif (Value.oneCell' a) (newK H [a] 27 (fun i j=>apK T0 27 j h (slice (some ⟨i,0,none⟩) 1 (1+1)) (fun k l=>B3 P c d e f g k b l))) False
abbrev k3:Sk:=[(1,.v),(5,.v),(7,.v),(8,.v),(9,.v),(10,J),(11,.v),(12,J)]
def B6 (P:PT) (j:Y k1) (d:Y k3):Y k3:=fun e f g h i a b c H=>
  d e f g h i a b (i64.wrap (c+1)) H
def B7 (e:Y k1) (f:Y k3):Y k3:=fun d g h i j b c a H=>
  idxK d a 1 (fun k l=>li H k l (fun m=>newK H [(I m)] 2 (fun n o=>apK T0 2 o c (slice (some ⟨n,0,none⟩) 1 (1+1)) (fun p q=>B6 P e f d g h i j b p a q))))
def B8 (e:Y k1) (f:Y k3):Y k3:=fun g h i d j b c a H=>
  idxK d a 1 (fun k l=>stK H k l [(bool true)] (fun m=>B7 P e f g h i d j b c a m))
def B9 (i:Y k1) (j:Y k3):Y k3:=fun k d e l m a c b H=>
  idxK d b 2 (fun n o=>li H n o (fun p=>idxK e p 1 (fun q r=>li H q r (fun s=>idxK d a 2 (fun t u=>li H t u (fun v=>idxK e v 1 (fun f g=>li H f g (fun h=>pif ((s:Int)==h) (B8 P i j k d e l m a c b H) (B6 P i j k d e l m a c b H)))))))))
def B10 (e:Y k1) (j:Y k3):Y k3:=fun d f g h i a b c H=>
  lenK d (fun k=>pif (decide ((c:Int)<(k:Int))) (B9 P e j d f g h i a b c H) (B4 P e d f g h i a b H))
def L5 (u:Y k1):Y k3:=fun v w x y z g h i H=>
  ∃ (I:Y k3) (μ:NTy k3 (AHeap→Nat)),I v w x y z g h i H∧∀ j k l m n a b c G,I j k l m n a b c G→B10 P u (fun o p q r s d e f t=>I o p q r s d e f t∧μ o p q r s d e f t<μ j k l m n a b c G) j k l m n a b c G
def B11 (c:Y k1):Y k2:=fun d e f g h a b H=>
  L5 P c d e f g h a b a H
def B12 (b:Y k1):Y k1:=fun c d e f g a H=>
  newK H [] 2 (fun h i=>B11 P b c d e f g a (slice (some ⟨h,0,none⟩) 0 (0+1)) i)
def B13 (c:Y k1):Y k1:=fun d e f b g a H=>
  idxK b a 1 (fun h i=>ld1 H h i (fun j=>asB j (fun k=>pif k (B3 P c d e f b g a H) (B12 P c d e f b g a H))))
def B14 (d:Y k1):Y k1:=fun b e f g c a H=>
  lenK b (fun h=>pif (decide ((a:Int)<(h:Int))) (B13 P d b e f g c a H) (B1 P c H))
def L2:Y k1:=fun o p q r s c H=>
  ∃ (I:Y k1) (μ:NTy k1 (AHeap→Nat)),I o p q r s c H∧∀ d e f g h a G,I d e f g h a G→B14 P (fun i j k l m b n=>I i j k l m b n∧μ i j k l m b n<μ d e f g h a G) d e f g h a G
abbrev k4:Sk:=[(1,.v),(5,.v),(7,.v),(8,.v),(9,.v)]
def B15:Y k4:=fun a b c d e H=>
  L2 P a b c d e 0 H
abbrev k5:Sk:=[(1,.v),(2,.x),(5,.v)]
def B16:Y k5:=fun c K a H=>
  li H K 0 (fun d=>lenK c (fun b=>(A 112 [(I d),a] H (fun F G=>(mkR G 1 4 [(bool false)] (b:Int) (b:Int) (fun L Q=>newK Q [] 27 (fun R S=>B15 P c a F L (slice (some ⟨R,0,none⟩) 0 (0+1)) S)))∧(newK G [] 27 (fun i j=>mkR j 1 4 [(bool false)] (b:Int) (b:Int) (fun k l=>B15 P c a F k (slice (some ⟨i,0,none⟩) 0 (0+1)) l)))))∧((mkR H 1 4 [(bool false)] (b:Int) (b:Int) (fun e f=>(A 112 [(I d),a] f (fun m n=>newK n [] 27 (fun o p=>B15 P c a m e (slice (some ⟨o,0,none⟩) 0 (0+1)) p)))∧(newK f [] 27 (fun q r=>A 112 [(I d),a] r (fun s t=>B15 P c a s e (slice (some ⟨q,0,none⟩) 0 (0+1)) t)))))∧(newK H [] 27 (fun g h=>(A 112 [(I d),a] h (fun u v=>mkR v 1 4 [(bool false)] (b:Int) (b:Int) (fun w x=>B15 P c a u w (slice (some ⟨g,0,none⟩) 0 (0+1)) x)))∧(mkR h 1 4 [(bool false)] (b:Int) (b:Int) (fun y z=>A 112 [(I d),a] z (fun C D=>B15 P c a C y (slice (some ⟨g,0,none⟩) 0 (0+1)) D))))))))
abbrev k6:Sk:=[(1,.v),(2,.x),(5,.v),(6,J)]
def B18 (P:PT) (a:Y k6):Y k6:=fun b c d e H=>
  a b c d (i64.wrap (e+1)) H
def B19 (a:Y k6):Y k6:=fun e f j g H=>
  ld1 H f 1 (fun k=>idxK e g 1 (fun l m=>li H l m (fun n=>idxK k n 2 (fun h i=>li H h i (fun o=>li H h (i+1) (fun p=>newK H [(I o),(I p)] 66 (fun q b=>apK T0 66 b j (slice (some ⟨q,0,none⟩) 1 (1+1)) (fun c d=>B18 P a e f c g d))))))))
def B20 (a:Y k6):Y k6:=fun b c d e H=>
  lenK b (fun f=>pif (decide ((e:Int)<(f:Int))) (B19 P a b c d e H) (B16 P b c d H))
def L17:Y k6:=fun j k l m H=>
  ∃ (I:Y k6) (μ:NTy k6 (AHeap→Nat)),I j k l m H∧∀ a b c d G,I a b c d G→B20 P (fun e f g h i=>I e f g h i∧μ e f g h i<μ a b c d G) a b c d G
def B21:Y k5:=fun a b c H=>
  L17 P a b c 0 H
abbrev k7:Sk:=[(1,.v),(2,.x)]
def B22:Y k7:=fun a b H=>
  newK H [] 66 (fun c d=>B21 P a b (slice (some ⟨c,0,none⟩) 0 (0+1)) d)
abbrev k8:Sk:=[(0,.g [.i,.v]),(1,.v)]
def B23:Y k8:=fun a b c H=>
  newK H [(I a),b] 26 (fun d e=>B22 P c d e)
theorem main:Z Tryz.f51 89 k8 (B23 P) P:=
  s (B22 P) (s (B21 P) (zBW (s (L17 P) (zBC (l (B20 P) (fun N17=>(zBW (zBW (b (cnd 17 (En 89 k6 (B19 P N17)) (En 89 k5 (B16 P)))) (zBN rfl zBS (zBT (fun _ _ h=>h)))) (zBW (zBC (d (tf 12) (En 89 k6 (B18 P N17)))) (a N17))))))) (zBW (t (.op 0 [] (.op 1 [] (.op 2 [] (.op 4 [] (.op 5 [] (.alt (.op 3 [] (.op 8 [] (.alt (.op 6 [] (.op 9 [] (.op 7 [] (.op 10 [] .done)))) (.op 7 [] (.op 6 [] (.op 9 [] (.op 10 [] .done))))))) (.alt (.op 6 [] (.alt (.op 3 [] (.op 8 [] (.op 9 [] (.op 7 [] (.op 10 [] .done))))) (.op 7 [] (.op 3 [] (.op 8 [] (.op 9 [] (.op 10 [] .done))))))) (.op 7 [] (.alt (.op 3 [] (.op 8 [] (.op 6 [] (.op 9 [] (.op 10 [] .done))))) (.op 6 [] (.op 3 [] (.op 8 [] (.op 9 [] (.op 10 [] .done)))))))))))))) (En 89 k4 (B15 P))) (zBW (s (L2 P) (zBC (l (B14 P) (fun N2=>(zBW (zBW (b (cnd 42 (En 89 k1 (B13 P N2)) (En 89 k0 (B1 P)))) (zBN rfl zBS (zBT (fun _ _ h=>h)))) (zBW (zBC (zBW (zBW (b (cnd 48 (En 89 k1 (B3 P N2)) (En 89 k1 (B12 P N2)))) (zBN rfl (zBT (fun _ _ h=>h)) zBS)) (s (B11 P N2) (zBW (s (L5 P N2) (zBC (l (B10 P N2) (fun N5=>(zBW (zBW (b (cnd 54 (En 89 k3 (B9 P N2 N5)) (En 89 k2 (B4 P N2)))) (zBN rfl zBS (zBT (fun _ _ h=>h)))) (zBW (zBC (zBW (d (tf 17) (cnd 73 (En 89 k3 (B8 P N2 N5)) (En 89 k3 (B6 P N2 N5)))) (zBN rfl (s (B7 P N2 N5) (a (B6 P N2 N5))) zBS))) (a N5))))))) (a (B3 P N2)))))) (a N2))))))) (e ())))))
theorem ac (a:Int) (b c:Value) (H:AHeap) (h:B23 P a b c H):A 51 [(agg ⟨[(I a),b]⟩),c] H P:=
  fn Tryz.func51 (main P) h
end F51
namespace F52
variable (P:PT)
abbrev k0:Sk:=[(1,.i .u64),(2,.x)]
def B1:Y k0:=fun d a H=>
  li H a 0 (fun e=>ld1 H a 1 (fun f=>A 45 [(agg ⟨[(I e),f]⟩),(int .u64 d)] H (fun g b=>asB g (fun h=>pif h (li b a 0 (fun i=>ld1 b a 1 (fun j=>A 48 [(agg ⟨[(I i),j]⟩),(int .u64 d)] b (fun k l=>lenK k (fun c=>P (bool (((c:Int):Int)==1)) l))))) (P (bool false) b)))))
abbrev k1:Sk:=[(0,.g [.i,.v]),(1,.i .u64)]
def B2:Y k1:=fun a b c H=>
  newK H [(I a),b] 26 (fun d e=>B1 P c d e)
theorem main:Z Tryz.f52 15 k1 (B2 P) P:=
  s (B1 P) (e ())
theorem ac (a:Int) (b:Value) (c:Int) (H:AHeap) (h:B2 P a b c H):A 52 [(agg ⟨[(I a),b]⟩),(int .u64 c)] H P:=
  fn Tryz.func52 (main P) h
end F52
namespace F53
variable (P:PT)
abbrev k0:Sk:=[]
def B1:Y k0:=fun H=>
  P (I 0) H
def B2:Y k0:=fun H=>
  P (I 1) H
def B3:Y k0:=fun H=>
  P (I 2) H
abbrev k1:Sk:=[(1,.b)]
def B4:Y k1:=fun a H=>
  pif (!a) (B3 P H) (B1 P H)
abbrev k2:Sk:=[(1,.b),(2,.x)]
def B5:Y k2:=fun c a H=>
  li H a 0 (fun d=>ld1 H a 1 (fun e=>A 113 [(agg ⟨[(I d),e]⟩)] H (fun f b=>asB f (fun g=>pif (!g) (B2 P b) (B4 P c b)))))
abbrev k3:Sk:=[(0,.g [.i,.v]),(1,.b)]
def B6:Y k3:=fun a b c H=>
  newK H [(I a),b] 26 (fun d e=>B5 P c d e)
theorem main:Z Tryz.f53 12 k3 (B6 P) P:=
  s (B5 P) (zBW (zBC (zBW (b (cnd 5 (En 12 k0 (B2 P)) (En 12 k1 (B4 P)))) (zBN rfl (e ()) (zBW (b (cnd 9 (En 12 k0 (B3 P)) (En 12 k0 (B1 P)))) (zBN rfl (e ()) zBS))))) (e ()))
theorem ac (a:Int) (b:Value) (c:Bool) (H:AHeap) (h:B6 P a b c H):A 53 [(agg ⟨[(I a),b]⟩),(bool c)] H P:=
  fn Tryz.func53 (main P) h
end F53
namespace F54
variable (P:PT)
abbrev k0:Sk:=[]
def B1:Y k0:=fun H=>
  P (bool true) H
abbrev k1:Sk:=[(0,.v),(1,J),(7,.v),(8,J),(9,J)]
def B3 (P:PT) (a:Y k1):Y k1:=fun b c d e f H=>
  a b c d e (i64.wrap (f+1)) H
def B4 (a:Y k1):Y k0:=fun H=>
  P (bool false) H
abbrev k2:Sk:=[(0,.v),(1,J),(5,J),(6,J),(7,.v),(8,J),(9,J)]
def B5 (b:Y k1):Y k2:=fun c d e f g h i H=>
  A 91 [(I f),(I 0),(I (i64.wrap (d-1)))] H (fun j a=>asB j (fun k=>pif (!k) (B4 P b a) (pif (decide ((e:Int)>0)) (idxK c (i64.wrap (e-1)) 1 (fun l m=>li a l m (fun n=>pif (decide ((f:Int)≤n)) (B4 P b a) (B3 P b c d g h i a)))) (B3 P b c d g h i a))))
def B6 (c:Y k1):Y k1:=fun d e b f a H=>
  idxK b a 1 (fun g h=>li H g h (fun i=>B5 P c d e a i b f a H))
def B7 (c:Y k1):Y k1:=fun d e f a b H=>
  pif (decide ((b:Int)<a)) (B6 P c d e f a b H) (B1 P H)
def L2:Y k1:=fun l m n o p H=>
  ∃ (I:Y k1) (μ:NTy k1 (AHeap→Nat)),I l m n o p H∧∀ a b c d e G,I a b c d e G→B7 P (fun f g h i j k=>I f g h i j k∧μ f g h i j k<μ a b c d e G) a b c d e G
abbrev k3:Sk:=[(0,.v),(1,J)]
def B8:Y k3:=fun a b H=>
  lenK a (fun c=>L2 P a b a (c:Int) 0 H)
def B9:Y k3:=fun a b H=>
  B8 P a b H
theorem main:Z Tryz.f54 33 k3 (B9 P) P:=
  s (B8 P) (zBW (s (L2 P) (zBC (l (B7 P) (fun N2=>(zBW (b (cnd 10 (En 33 k1 (B6 P N2)) (En 33 k0 (B1 P)))) (zBW (zBN rfl zBS (zBT (fun _ _ h=>h))) (zBW (zBC (s (B5 P N2) (zBW (b (cnd 31 (En 33 k0 (B4 P N2)) (En 33 k1 (B3 P N2)))) (zBN rfl (e ()) zBS)))) (a N2)))))))) (e ()))
theorem ac (a:Value) (b:Int) (H:AHeap) (h:B9 P a b H):A 54 [a,(I b)] H P:=
  fn Tryz.func54 (main P) h
end F54
namespace F55
variable (P:PT)
abbrev k0:Sk:=[(0,.v)]
def B1:Y k0:=fun a H=>
  lenK a (fun b=>P (I (b:Int)) H)
def B2:Y k0:=fun a H=>
  B1 P a H
theorem main:Z Tryz.f55 5 k0 (B2 P) P:=
  s (B1 P) (e ())
theorem ac (a:Value) (H:AHeap) (h:B2 P a H):A 55 [a] H P:=
  fn Tryz.func55 (main P) h
end F55
namespace F56
variable (P:PT)
abbrev k0:Sk:=[(3,.v)]
def B1:Y k0:=fun a H=>
  P a H
abbrev k1:Sk:=[(0,.i .u64),(3,.v),(4,J)]
def B3 (P:PT) (a:Y k1):Y k1:=fun b c d H=>
  a b c (i64.wrap (d+1)) H
def B4 (b:Y k1):Y k1:=fun c d a H=>
  newK H [(I a)] 2 (fun e f=>apK T0 2 f d (slice (some ⟨e,0,none⟩) 1 (1+1)) (fun g h=>B3 P b c g a h))
def B5 (c:Y k1):Y k1:=fun a d b H=>
  A 110 [(int .u64 a),(I b)] H (fun f e=>asB f (fun g=>pif g (B4 P c a d b e) (B3 P c a d b e)))
def B6 (d:Y k1):Y k1:=fun b c a H=>
  ((0:Int)≤a)∧(pif ((Int.fdiv b (2^(min (Int.toNat a) 64)):Int) != 0) (B5 P d b c a H) (B1 P c H))
def L2:Y k1:=fun h i j H=>
  ∃ (I:Y k1) (μ:NTy k1 (AHeap→Nat)),I h i j H∧∀ a b c G,I a b c G→B6 P (fun d e f g=>I d e f g∧μ d e f g<μ a b c G) a b c G
abbrev k2:Sk:=[(0,.i .u64),(3,.v)]
def B7:Y k2:=fun a b H=>
  L2 P a b 0 H
abbrev k3:Sk:=[(0,.i .u64)]
def B8:Y k3:=fun a H=>
  B7 P a (slice none 0 0) H
def B9:Y k3:=fun a H=>
  B8 P a H
theorem main:Z Tryz.f56 19 k3 (B9 P) P:=
  s (B8 P) (s (B7 P) (zBW (s (L2 P) (zBC (l (B6 P) (fun N2=>(zBW (zBW (b (cnd 8 (En 19 k1 (B5 P N2)) (En 19 k0 (B1 P)))) (zBN rfl zBS (zBT (fun _ _ h=>h)))) (zBW (zBC (zBW (b (cnd 13 (En 19 k1 (B4 P N2)) (En 19 k1 (B3 P N2)))) (zBN rfl (a (B3 P N2)) zBS))) (a N2))))))) (e ())))
theorem ac (a:Int) (H:AHeap) (h:B9 P a H):A 56 [(int .u64 a)] H P:=
  fn Tryz.func56 (main P) h
end F56
namespace F57
variable (P:PT)
abbrev k0:Sk:=[(3,.v)]
def B1:Y k0:=fun a H=>
  P a H
abbrev k1:Sk:=[(0,.v),(3,.v),(4,J)]
def B3 (P:PT) (a:Y k1):Y k1:=fun b c d H=>
  a b c (i64.wrap (d+1)) H
def B4 (f:Y k1):Y k1:=fun d a e H=>
  nilK a (fun g=>asP g (fun h i=>ldI .u64 H h (i+2) (fun j=>idxK d e 1 (fun k l=>ldI .u8 H k l (fun m=>nilK a (fun n=>asP n (fun o b=>stK H o (b+2) [(int .u64 (u64.wrap ((u64.wrap ((u64.wrap (j*1099511628211))+(u64.wrap m)))+151)))] (fun c=>B3 P f d a e c))))))))
def B5 (d:Y k1):Y k1:=fun c a b H=>
  lenK c (fun e=>pif (decide ((b:Int)<(e:Int))) (pif (decide ((b:Int)<4096)) (B4 P d c a b H) (B1 P a H)) (B1 P a H))
def L2:Y k1:=fun h i j H=>
  ∃ (I:Y k1) (μ:NTy k1 (AHeap→Nat)),I h i j H∧∀ a b c G,I a b c G→B5 P (fun d e f g=>I d e f g∧μ d e f g<μ a b c G) a b c G
abbrev k2:Sk:=[(0,.v),(3,.v)]
def B6:Y k2:=fun a b H=>
  L2 P a b 0 H
abbrev k3:Sk:=[(0,.v)]
def B7:Y k3:=fun a H=>
  lenK a (fun b=>pif (Value.oneCell' a) (newK H [a,(I 0),(int .u64 (u64.wrap (13291+(u64.wrap (b:Int)))))] 121 (fun c d=>B6 P a (pointer (some ⟨c,0,none⟩)) d)) False)
def B8:Y k3:=fun a H=>
  B7 P a H
theorem main:Z Tryz.f57 38 k3 (B8 P) P:=
  s (B7 P) (s (B6 P) (zBW (s (L2 P) (zBC (l (B5 P) (fun N2=>(zBW (zBW (b (cnd 19 (En 38 k1 (B4 P N2)) (En 38 k0 (B1 P)))) (zBN rfl zBS (zBT (fun _ _ h=>h)))) (zBW (zBC (d (tf 16) (En 38 k1 (B3 P N2)))) (a N2))))))) (e ())))
theorem ac (a:Value) (H:AHeap) (h:B8 P a H):A 57 [a] H P:=
  fn Tryz.func57 (main P) h
end F57
namespace F58
variable (P:PT)
def ret (P:PT):EP:=retE T0 40 Tryz.f58 P
abbrev k0:Sk:=[(0,.v),(2,.x)]
def B1:Y k0:=fun f b H=>
  newK H [(I 2),(I 4),(I 6),(I 8),(I 10),(I 12),(I 14),(I 20)] 2 (fun g h=>A 78 [f,(slice (some ⟨g,0,none⟩) 8 (8+1))] h (fun i j=>asI .i64 i (fun k=>A 104 [f,(I k)] j (fun l m=>agg2 l (fun n o=>asI .i64 n (fun c=>stK m b 0 [(I c),o] (fun a=>li a b 0 (fun d=>ld1 a b 1 (fun e=>P (agg ⟨[(I d),e]⟩) a)))))))))
def B2:Y k0:=fun l b H=>
  A 65 [l] H (fun m n=>agg2 m (fun o p=>asI .i64 o (fun q=>A 65 [l] n (fun r s=>agg2 r (fun t c=>asI .i64 t (fun d=>A 118 [(agg ⟨[(I q),p]⟩),(agg ⟨[(I d),c]⟩)] s (fun e f=>agg2 e (fun g h=>asI .i64 g (fun i=>stK f b 0 [(I i),h] (fun a=>li a b 0 (fun j=>ld1 a b 1 (fun k=>P (agg ⟨[(I j),k]⟩) a))))))))))))
def B3:Y k0:=fun a b H=>
  A 60 [a,(I 8)] H (fun d c=>asI .i64 d (fun e=>pif ((e:Int)==0) (B2 P a b c) (B1 P a b c)))
abbrev k1:Sk:=[(0,.v),(2,.x),(4,.x)]
def B4:Y k1:=fun m d b H=>
  li H b 0 (fun k=>ld1 H b 1 (fun l=>li H b 0 (fun n=>A 117 [m,(I n)] H (fun o c=>(li c b 0 (fun p=>ld1 c b 1 (fun q=>((agg ⟨[(I p),q]⟩)=(agg ⟨[(I k),l]⟩))∧(c=c))))∧(A 116 [(agg ⟨[(I k),l]⟩),o] c (fun r e=>agg2 r (fun f g=>asI .i64 f (fun h=>stK e d 0 [(I h),g] (fun a=>li a d 0 (fun i=>ld1 a d 1 (fun j=>P (agg ⟨[(I i),j]⟩) a)))))))))))
abbrev k2:Sk:=[(0,.v),(2,.x),(3,.v)]
def B5:Y k2:=fun j m k H=>
  lenK k (fun n=>A 60 [j,(I (n:Int))] H (fun o l=>asI .i64 o (fun p=>idxK k p 1 (fun q r=>ld1 l q r (fun s=>asS s (fun t=>A 115 [(string t)] l (fun u b=>tup2 u (fun c d=>agg2 c (fun e f=>asI .i64 e (fun g=>asB d (fun v=>newK b [(I 0),(slice none 0 0)] 26 (fun a h=>stK h a 0 [(I g),f] (fun i=>B4 P j m a i)))))))))))))
def B6:Y k0:=fun a b H=>
  A 114 [] H (fun c d=>B5 P a b c d)
def B7:Y k0:=fun a b H=>
  A 60 [a,(I 3)] H (fun d c=>asI .i64 d (fun e=>pif ((e:Int)==0) (B6 P a b c) (B3 P a b c)))
abbrev k3:Sk:=[(0,.v)]
def B8:Y k3:=fun a H=>
  newK H [(I 0),(slice none 0 0)] 26 (fun b c=>B7 P a b c)
theorem main:Z Tryz.f58 40 k3 (B8 P) P:=
  s (B7 P) (zBW (zBW (b (cnd 8 (En 40 k0 (B6 P)) (En 40 k0 (B3 P)))) (zBN rfl (s (B5 P) (s (B4 P) (zBW (t (.op 0 [] (.op 1 [] (.op 2 [] (.op 3 [] (.op 4 [0] (.op 5 [] (.op 6 [] .done))))))) (ret P)) zBV))) zBS)) (zBW (zBW (b (cnd 29 (En 40 k0 (B2 P)) (En 40 k0 (B1 P)))) (zBN rfl (e ()) zBS)) (e ())))
theorem ac (a:Value) (H:AHeap) (h:B8 P a H):A 58 [a] H P:=
  fn Tryz.func58 (main P) h
end F58
namespace F59
variable (P:PT)
abbrev k0:Sk:=[(6,.v)]
def B1:Y k0:=fun a H=>
  P a H
abbrev k1:Sk:=[(5,.v),(6,.v),(7,J)]
def B3 (P:PT) (a:Y k1):Y k1:=fun b c d H=>
  a b c (i64.wrap (d+1)) H
def B4 (b:Y k1):Y k1:=fun c d a H=>
  newK H [(I a)] 2 (fun e f=>apK T0 2 f d (slice (some ⟨e,0,none⟩) 1 (1+1)) (fun g h=>B3 P b c g a h))
def B5 (c:Y k1):Y k1:=fun a d b H=>
  idxK a b 1 (fun e f=>li H e f (fun g=>pif ((g:Int)==1) (B4 P c a d b H) (B3 P c a d b H)))
def B6 (d:Y k1):Y k1:=fun a b c H=>
  lenK a (fun e=>pif (decide ((c:Int)<(e:Int))) (B5 P d a b c H) (B1 P b H))
def L2:Y k1:=fun h i j H=>
  ∃ (I:Y k1) (μ:NTy k1 (AHeap→Nat)),I h i j H∧∀ a b c G,I a b c G→B6 P (fun d e f g=>I d e f g∧μ d e f g<μ a b c G) a b c G
abbrev k2:Sk:=[(5,.v),(6,.v)]
def B7:Y k2:=fun a b H=>
  L2 P a b 0 H
abbrev k3:Sk:=[(0,.v),(3,.x)]
def B8:Y k3:=fun b a H=>
  li H a 0 (fun c=>ld1 H a 1 (fun d=>A 119 [b,(agg ⟨[(I c),d]⟩),(I 2)] H (fun e f=>newK f [] 2 (fun g h=>B7 P e (slice (some ⟨g,0,none⟩) 0 (0+1)) h))))
abbrev k4:Sk:=[(0,.v),(1,.g [.i,.v])]
def B9:Y k4:=fun c a b H=>
  newK H [(I a),b] 26 (fun d e=>B8 P c d e)
theorem main:Z Tryz.f59 28 k4 (B9 P) P:=
  s (B8 P) (s (B7 P) (zBW (s (L2 P) (zBC (l (B6 P) (fun N2=>(zBW (zBW (b (cnd 15 (En 28 k1 (B5 P N2)) (En 28 k0 (B1 P)))) (zBN rfl zBS (zBT (fun _ _ h=>h)))) (zBW (zBC (zBW (b (cnd 22 (En 28 k1 (B4 P N2)) (En 28 k1 (B3 P N2)))) (zBN rfl (a (B3 P N2)) zBS))) (a N2))))))) (e ())))
theorem ac (c:Value) (a:Int) (b:Value) (H:AHeap) (h:B9 P c a b H):A 59 [c,(agg ⟨[(I a),b]⟩)] H P:=
  fn Tryz.func59 (main P) h
end F59
namespace F60
variable (P:PT)
abbrev k0:Sk:=[(1,J),(5,J)]
def B1:Y k0:=fun a b H=>
  nzK a (P (I (Int.tmod b a)) H)
abbrev k1:Sk:=[(0,.v),(1,J),(5,J)]
def B2:Y k1:=fun a b c H=>
  nilK a (fun d=>asP d (fun e f=>li H e (f+1) (fun g=>nilK a (fun h=>asP h (fun i j=>stK H i (j+1) [(I (i64.wrap (g+1)))] (fun k=>B1 P b c k))))))
def B3:Y k1:=fun a d e H=>
  nilK a (fun f=>asP f (fun g h=>ld1 H g h (fun i=>nilK a (fun j=>asP j (fun k l=>li H k (l+1) (fun m=>idxK i m 1 (fun n b=>ldI .u8 H n b (fun c=>B2 P a d (i64.wrap (e+(i64.wrap c))) H))))))))
def B4:Y k1:=fun a b c H=>
  nilK a (fun d=>asP d (fun e f=>li H e (f+1) (fun g=>nilK a (fun h=>asP h (fun i j=>ld1 H i j (fun k=>lenK k (fun l=>pif (decide ((g:Int)<(l:Int))) (B3 P a b c H) (B1 P b c H))))))))
abbrev k2:Sk:=[(0,.v),(1,J)]
def B5:Y k2:=fun a b H=>
  nilK a (fun c=>asP c (fun d e=>ldI .u64 H d (e+2) (fun f=>((0:Int)≤33)∧(B4 P a b (i64.wrap (u64.wrap (BitVec.ofInt 64 (Int.fdiv f (2^(min (Int.toNat 33) 64)))&&&BitVec.ofInt 64 16777215).toNat)) H))))
def B6:Y k2:=fun a b H=>
  nilK a (fun c=>asP c (fun d e=>ldI .u64 H d (e+2) (fun f=>nilK a (fun g=>asP g (fun h i=>stK H h (i+2) [(int .u64 (u64.wrap ((u64.wrap (f*6364136223846793005))+1442695040888963407)))] (fun j=>B5 P a b j))))))
abbrev k3:Sk:=[]
def B7:Y k3:=fun H=>
  P (I 0) H
def B8:Y k2:=fun b a H=>
  pif (decide ((a:Int)<1)) (B7 P H) (B6 P b a H)
def B9:Y k2:=fun a b H=>
  B8 P a b H
theorem main:Z Tryz.f60 58 k2 (B9 P) P:=
  s (B8 P) (zBW (zBW (b (cnd 7 (En 58 k3 (B7 P)) (En 58 k2 (B6 P)))) (zBN rfl (e ()) zBS)) (s (B5 P) (s (B4 P) (zBW (zBW (d (tf 10) (cnd 33 (En 58 k1 (B3 P)) (En 58 k0 (B1 P)))) (zBN rfl (zBW (d (tf 14) (En 58 k1 (B2 P))) (a (B1 P))) zBS)) (e ())))))
theorem ac (a:Value) (b:Int) (H:AHeap) (h:B9 P a b H):A 60 [a,(I b)] H P:=
  fn Tryz.func60 (main P) h
end F60
namespace F61
variable (P:PT)
abbrev k0:Sk:=[(7,.v)]
def B1:Y k0:=fun a H=>
  P a H
abbrev k1:Sk:=[(0,.v),(1,J),(7,.v)]
def B2:Y k1:=fun a b c H=>
  newK H [(I 0),(I (-1)),(I b)] 2 (fun d e=>A 78 [a,(slice (some ⟨d,0,none⟩) 3 (3+1))] e (fun f g=>asI .i64 f (fun h=>newK g [(I h)] 2 (fun i j=>apK T0 2 j c (slice (some ⟨i,0,none⟩) 1 (1+1)) (fun k l=>B1 P k l)))))
def B3:Y k1:=fun a d b H=>
  A 60 [a,(I 24)] H (fun e c=>asI .i64 e (fun f=>pif ((f:Int)==0) (B2 P a d b c) (B1 P b c)))
abbrev k2:Sk:=[(0,.v),(1,J),(2,J),(7,.v),(8,J)]
def B5 (P:PT) (a:Y k2):Y k2:=fun b c d e f H=>
  a b c d e (i64.wrap (f+1)) H
def B6 (b:Y k2):Y k2:=fun c d e f a H=>
  newK H [(I a)] 2 (fun g h=>apK T0 2 h f (slice (some ⟨g,0,none⟩) 1 (1+1)) (fun i j=>B5 P b c d e i a j))
def B7 (d:Y k2):Y k2:=fun a b c e f H=>
  A 60 [a,(I b)] H (fun h g=>asI .i64 h (fun i=>pif (decide ((i:Int)<c)) (B6 P d a b c e f g) (B5 P d a b c e f g)))
def B8 (e:Y k2):Y k2:=fun b a f c d H=>
  pif (decide ((d:Int)<a)) (B7 P e b a f c d H) (B3 P b a c H)
def L4:Y k2:=fun l m n o p H=>
  ∃ (I:Y k2) (μ:NTy k2 (AHeap→Nat)),I l m n o p H∧∀ a b c d e G,I a b c d e G→B8 P (fun f g h i j k=>I f g h i j k∧μ f g h i j k<μ a b c d e G) a b c d e G
abbrev k3:Sk:=[(0,.v),(1,J),(2,J),(7,.v)]
def B9:Y k3:=fun a b c d H=>
  L4 P a b c d 0 H
abbrev k4:Sk:=[(0,.v),(1,J),(2,J)]
def B10:Y k4:=fun a b c H=>
  newK H [] 2 (fun d e=>B9 P a b c (slice (some ⟨d,0,none⟩) 0 (0+1)) e)
def B11:Y k4:=fun a b c H=>
  B10 P a b c H
theorem main:Z Tryz.f61 35 k4 (B11 P) P:=
  s (B10 P) (s (B9 P) (zBW (s (L4 P) (zBC (l (B8 P) (fun N4=>(zBW (zBW (b (cnd 12 (En 35 k2 (B7 P N4)) (En 35 k1 (B3 P)))) (zBN rfl zBS (zBT (fun _ _ h=>h)))) (zBW (zBC (zBW (b (cnd 19 (En 35 k2 (B6 P N4)) (En 35 k2 (B5 P N4)))) (zBN rfl (a (B5 P N4)) zBS))) (a N4))))))) (zBW (zBW (b (cnd 26 (En 35 k1 (B2 P)) (En 35 k0 (B1 P)))) (zBN rfl (a (B1 P)) zBS)) (e ()))))
theorem ac (a:Value) (b c:Int) (H:AHeap) (h:B11 P a b c H):A 61 [a,(I b),(I c)] H P:=
  fn Tryz.func61 (main P) h
end F61
namespace F62
variable (P:PT)
abbrev k0:Sk:=[(3,.x),(4,.x),(5,.v)]
def B1:Y k0:=fun d a c H=>
  li H d 0 (fun e=>pif (Value.oneCell' c) (stK H a 0 [(I e),c] (fun b=>li b a 0 (fun f=>ld1 b a 1 (fun g=>P (agg ⟨[(I f),g]⟩) b)))) False)
abbrev k1:Sk:=[(0,.v),(3,.x),(4,.x),(5,.v)]
def B2:Y k1:=fun d e a c H=>
  li H e 0 (fun f=>newK H [(I 0),(I 3),(I 22),(I (-2)),(I (i64.wrap (f+2)))] 2 (fun g h=>A 78 [d,(slice (some ⟨g,0,none⟩) 5 (5+1))] h (fun i j=>asI .i64 i (fun k=>pif (Value.oneCell' c) (stK j a 0 [(I k),c] (fun b=>li b a 0 (fun l=>ld1 b a 1 (fun m=>P (agg ⟨[(I l),m]⟩) b)))) False))))
def B3:Y k1:=fun f b k i H=>
  lenK i (fun n1=>li H b 0 (fun j=>li H b 0 (fun g=>(A 60 [f,(I (n1:Int))] H (fun v4 h=>asI .i64 v4 (fun v6=>(li h b 0 (fun v7=>((I v7)=(I j))∧(h=h)))∧((li h b 0 (fun v8=>((I v8)=(I g))∧(h=h)))∧((A 60 [f,(I j)] h (fun v9 c=>asI .i64 v9 (fun l=>(li c b 0 (fun m=>((I m)=(I g))∧(c=c)))∧(newK c [(I (-1)),(I g),(I 0)] 2 (fun n o=>A 78 [f,(slice (some ⟨n,0,none⟩) 3 (3+1))] o (fun p q=>asI .i64 p (fun r=>idxK i v6 2 (fun s t=>stK q s t [(I l),(I r)] (fun u=>B1 P b k i u)))))))))∧(newK h [(I (-1)),(I g),(I 0)] 2 (fun v w=>A 60 [f,(I j)] w (fun x d=>asI .i64 x (fun y=>(li d b 0 (fun z=>((I z)=(I g))∧(d=d)))∧(A 78 [f,(slice (some ⟨v,0,none⟩) 3 (3+1))] d (fun C D=>asI .i64 C (fun F=>idxK i v6 2 (fun G K=>stK D G K [(I y),(I F)] (fun L=>B1 P b k i L))))))))))))))∧(newK H [(I (-1)),(I g),(I 0)] 2 (fun Q R=>A 60 [f,(I (n1:Int))] R (fun S a=>asI .i64 S (fun T=>(li a b 0 (fun U=>((I U)=(I j))∧(a=a)))∧((li a b 0 (fun V=>((I V)=(I g))∧(a=a)))∧(A 60 [f,(I j)] a (fun X e=>asI .i64 X (fun aa=>(li e b 0 (fun ab=>((I ab)=(I g))∧(e=e)))∧(A 78 [f,(slice (some ⟨Q,0,none⟩) 3 (3+1))] e (fun ac ad=>asI .i64 ac (fun ae=>idxK i T 2 (fun af ag=>stK ad af ag [(I aa),(I ae)] (fun ah=>B1 P b k i ah))))))))))))))))
abbrev k2:Sk:=[(3,.x),(4,.x),(5,.v),(6,.x)]
def B4:Y k2:=fun c d a b H=>
  lenK a (fun e=>li H b 0 (fun f=>li H b 1 (fun g=>idxK a (i64.wrap ((e:Int)-1)) 2 (fun h i=>stK H h i [(I f),(I g)] (fun j=>B1 P c d a j)))))
def B5:Y k2:=fun d e a f H=>
  lenK a (fun g=>idxK a (i64.wrap ((g:Int)-1)) 2 (fun b c=>li H b c (fun h=>li H b (c+1) (fun i=>idxK a 0 2 (fun j k=>stK H j k [(I h),(I i)] (fun l=>B4 P d e a f l))))))
def B6:Y k0:=fun e f a H=>
  idxK a 0 2 (fun b c=>li H b c (fun g=>li H b (c+1) (fun h=>newK H [(I 0),(I 0)] 66 (fun d i=>stK i d 0 [(I g),(I h)] (fun j=>B5 P e f a d j)))))
def B7:Y k0:=fun a b c H=>
  sliceK H 66 c (some (I 1)) none 2 (fun d=>B1 P a b d H)
abbrev k3:Sk:=[(3,.x),(4,.x)]
def B8:Y k3:=fun c a H=>
  li H c 0 (fun d=>ld1 H c 1 (fun e=>stK H a 0 [(I d),e] (fun b=>li b a 0 (fun f=>ld1 b a 1 (fun g=>P (agg ⟨[(I f),g]⟩) b)))))
abbrev k4:Sk:=[(3,.x),(4,.x),(5,.v),(12,J)]
def B9:Y k4:=fun b c d a H=>
  pif ((a:Int)==3) (B7 P b c d H) (B8 P b c H)
def B10:Y k4:=fun b c d a H=>
  pif ((a:Int)==2) (B6 P b c d H) (B9 P b c d a H)
abbrev k5:Sk:=[(0,.v),(3,.x),(4,.x),(5,.v),(12,J)]
def B11:Y k5:=fun e b c d a H=>
  pif ((a:Int)==1) (B3 P e b c d H) (B10 P b c d a H)
def B12:Y k5:=fun b c d e a H=>
  pif ((a:Int)==0) (B2 P b c d e H) (B11 P b c d e a H)
def B13:Y k1:=fun a b c d H=>
  A 60 [a,(I 50)] H (fun e f=>asI .i64 e (fun g=>B12 P a b c d g f))
abbrev k6:Sk:=[(0,.v),(3,.x),(4,.x)]
def B14:Y k6:=fun c a d H=>
  newK H [] 66 (fun e b=>ld1 b a 1 (fun f=>apK T0 66 b (slice (some ⟨e,0,none⟩) 0 (0+1)) f (fun g h=>B13 P c a d g h)))
abbrev k7:Sk:=[(0,.v),(1,.g [.i,.v])]
def B15:Y k7:=fun c a b H=>
  newK H [(I a),b] 26 (fun d e=>newK e [(I 0),(slice none 0 0)] 26 (fun f g=>B14 P c d f g))
theorem main:Z Tryz.f62 69 k7 (B15 P) P:=
  s (B14 P) (s (B13 P) (zBW (s (B12 P) (zBC (zBW (b (cnd 14 (En 69 k1 (B2 P)) (En 69 k5 (B11 P)))) (zBN rfl (e ()) (zBW (b (cnd 24 (En 69 k1 (B3 P)) (En 69 k4 (B10 P)))) (zBN rfl (t (.op 0 [] (.op 1 [] (.op 2 [] (.op 3 [] (.op 5 [] (.op 6 [] (.op 7 [] (.op 9 [] (.op 10 [] (.op 11 [] (.alt (.op 4 [7,11] (.alt (.op 8 [11] (.op 12 [] (.op 13 [] (.op 14 [] (.op 15 [] (.op 16 [] .done)))))) (.op 12 [] (.op 8 [11] (.op 13 [] (.op 14 [] (.op 15 [] (.op 16 [] .done)))))))) (.op 12 [] (.op 4 [7,11] (.op 8 [11] (.op 13 [] (.op 14 [] (.op 15 [] (.op 16 [] .done)))))))))))))))))) (En 69 k0 (B1 P))) (zBW (b (cnd 42 (En 69 k0 (B6 P)) (En 69 k4 (B9 P)))) (zBN rfl (s (B5 P) (s (B4 P) (a (B1 P)))) (zBW (b (cnd 61 (En 69 k0 (B7 P)) (En 69 k3 (B8 P)))) (zBN rfl (a (B1 P)) (e ()))))))))))) (e ())))
theorem ac (c:Value) (a:Int) (b:Value) (H:AHeap) (h:B15 P c a b H):A 62 [c,(agg ⟨[(I a),b]⟩)] H P:=
  fn Tryz.func62 (main P) h
end F62
namespace F64
variable (P:PT)
abbrev k0:Sk:=[(0,.v),(2,.x)]
def B1:Y k0:=fun g b H=>
  A 58 [g] H (fun h i=>agg2 h (fun j k=>asI .i64 j (fun l=>A 62 [g,(agg ⟨[(I l),k]⟩)] i (fun m n=>agg2 m (fun o c=>asI .i64 o (fun d=>stK n b 0 [(I d),c] (fun a=>li a b 0 (fun e=>ld1 a b 1 (fun f=>P (agg ⟨[(I e),f]⟩) a)))))))))
abbrev k1:Sk:=[(0,.v)]
def B2:Y k1:=fun a H=>
  newK H [(I 0),(slice none 0 0)] 26 (fun b c=>B1 P a b c)
theorem main:Z Tryz.f64 7 k1 (B2 P) P:=
  s (B1 P) (e ())
theorem ac (a:Value) (H:AHeap) (h:B2 P a H):A 64 [a] H P:=
  fn Tryz.func64 (main P) h
end F64
namespace F65
variable (P:PT)
def ret (P:PT):EP:=retE T0 32 Tryz.f65 P
abbrev k0:Sk:=[(0,.v),(2,.x)]
def B1:Y k0:=fun f b H=>
  newK H [(I 2),(I 4),(I 4),(I 6),(I 6),(I 8),(I 8),(I 10)] 2 (fun g h=>A 78 [f,(slice (some ⟨g,0,none⟩) 8 (8+1))] h (fun i j=>asI .i64 i (fun k=>A 104 [f,(I k)] j (fun l m=>agg2 l (fun n o=>asI .i64 n (fun c=>stK m b 0 [(I c),o] (fun a=>li a b 0 (fun d=>ld1 a b 1 (fun e=>P (agg ⟨[(I d),e]⟩) a)))))))))
abbrev k1:Sk:=[(0,.v),(2,.x),(4,.x)]
def B2:Y k1:=fun m d b H=>
  li H b 0 (fun k=>ld1 H b 1 (fun l=>li H b 0 (fun n=>A 117 [m,(I n)] H (fun o c=>(li c b 0 (fun p=>ld1 c b 1 (fun q=>((agg ⟨[(I p),q]⟩)=(agg ⟨[(I k),l]⟩))∧(c=c))))∧(A 116 [(agg ⟨[(I k),l]⟩),o] c (fun r e=>agg2 r (fun f g=>asI .i64 f (fun h=>stK e d 0 [(I h),g] (fun a=>li a d 0 (fun i=>ld1 a d 1 (fun j=>P (agg ⟨[(I i),j]⟩) a)))))))))))
abbrev k2:Sk:=[(0,.v),(2,.x),(3,.v)]
def B3:Y k2:=fun j m k H=>
  lenK k (fun n=>A 60 [j,(I (n:Int))] H (fun o l=>asI .i64 o (fun p=>idxK k p 1 (fun q r=>ld1 l q r (fun s=>asS s (fun t=>A 115 [(string t)] l (fun u b=>tup2 u (fun c d=>agg2 c (fun e f=>asI .i64 e (fun g=>asB d (fun v=>newK b [(I 0),(slice none 0 0)] 26 (fun a h=>stK h a 0 [(I g),f] (fun i=>B2 P j m a i)))))))))))))
def B4:Y k0:=fun a b H=>
  newK H [(string (⟨#[116,104,101,116,97]⟩)),(string (⟨#[107,52]⟩)),(string (⟨#[107,51,51]⟩)),(string (⟨#[112,114,105,115,109]⟩)),(string (⟨#[99,117,98,101]⟩)),(string (⟨#[112,101,116,101,114,115,101,110]⟩))] 9 (fun c d=>B3 P a b (slice (some ⟨c,0,none⟩) 6 (6+1)) d)
def B5:Y k0:=fun a b H=>
  A 60 [a,(I 4)] H (fun d c=>asI .i64 d (fun e=>pif ((e:Int)==0) (B4 P a b c) (B1 P a b c)))
abbrev k3:Sk:=[(0,.v)]
def B6:Y k3:=fun a H=>
  newK H [(I 0),(slice none 0 0)] 26 (fun b c=>B5 P a b c)
theorem main:Z Tryz.f65 32 k3 (B6 P) P:=
  s (B5 P) (zBW (zBW (b (cnd 8 (En 32 k0 (B4 P)) (En 32 k0 (B1 P)))) (zBN rfl (s (B3 P) (s (B2 P) (zBW (t (.op 0 [] (.op 1 [] (.op 2 [] (.op 3 [] (.op 4 [0] (.op 5 [] (.op 6 [] .done))))))) (ret P)) zBV))) zBS)) (e ()))
theorem ac (a:Value) (H:AHeap) (h:B6 P a H):A 65 [a] H P:=
  fn Tryz.func65 (main P) h
end F65
namespace F72
variable (P:PT)
abbrev k0:Sk:=[]
def B1:Y k0:=fun H=>
  P (bool true) H
abbrev k1:Sk:=[(1,.x),(3,J)]
def B3 (P:PT) (a:Y k1):Y k1:=fun b c H=>
  a b (i64.wrap (c+1)) H
def B4 (a:Y k1):Y k0:=fun H=>
  P (bool false) H
def B5 (h:Y k1):Y k1:=fun b a H=>
  ld1 H b 1 (fun p=>idxK p a 2 (fun q r=>li H q r (fun s=>ld1 H b 1 (fun t=>idxK t a 2 (fun u v=>li H u (v+1) (fun w=>pif (decide ((s:Int)>w)) (B4 P h H) (pif (decide ((a:Int)>0)) (ld1 H b 1 (fun x=>idxK x a 2 (fun c d=>li H c d (fun i=>li H c (d+1) (fun j=>ld1 H b 1 (fun k=>idxK k (i64.wrap (a-1)) 2 (fun e f=>li H e f (fun l=>li H e (f+1) (fun m=>A 129 [(agg ⟨[(I i),(I j)]⟩),(agg ⟨[(I l),(I m)]⟩)] H (fun n g=>asB n (fun o=>pif o (B4 P h g) (B3 P h b a g)))))))))))) (B3 P h b a H))))))))
def B6 (c:Y k1):Y k1:=fun a b H=>
  ld1 H a 1 (fun d=>lenK d (fun e=>pif (decide ((b:Int)<(e:Int))) (B5 P c a b H) (B1 P H)))
def L2:Y k1:=fun f g H=>
  ∃ (I:Y k1) (μ:NTy k1 (AHeap→Nat)),I f g H∧∀ a b G,I a b G→B6 P (fun c d e=>I c d e∧μ c d e<μ a b G) a b G
abbrev k2:Sk:=[(1,.x)]
def B7:Y k2:=fun a H=>
  L2 P a 0 H
def B8:Y k0:=fun H=>
  P (bool false) H
def B9:Y k2:=fun a H=>
  li H a 0 (fun e=>ld1 H a 1 (fun f=>A 127 [(I e),f] H (fun g b=>asI .i64 g (fun h=>pif ((h:Int) != 0) (B8 P b) (li b a 0 (fun i=>ld1 b a 1 (fun j=>A 128 [(I i),j] b (fun k d=>asB k (fun c=>pif (!c) (B8 P d) (B7 P a d))))))))))
abbrev k3:Sk:=[(0,.g [.i,.v])]
def B10:Y k3:=fun a b H=>
  newK H [(I a),b] 26 (fun c d=>B9 P c d)
theorem main:Z Tryz.f72 56 k3 (B10 P) P:=
  s (B9 P) (zBW (zBW (b (cnd 17 (En 56 k0 (B8 P)) (En 56 k2 (B7 P)))) (zBN rfl (e ()) zBS)) (zBW (s (L2 P) (zBC (l (B6 P) (fun N2=>(zBW (zBW (b (cnd 22 (En 56 k1 (B5 P N2)) (En 56 k0 (B1 P)))) (zBN rfl zBS (zBT (fun _ _ h=>h)))) (zBW (zBC (zBW (d (tf 31) (cnd 55 (En 56 k0 (B4 P N2)) (En 56 k1 (B3 P N2)))) (zBN rfl (e ()) zBS))) (a N2))))))) (e ())))
theorem ac (a:Int) (b:Value) (H:AHeap) (h:B10 P a b H):A 72 [(agg ⟨[(I a),b]⟩)] H P:=
  fn Tryz.func72 (main P) h
end F72
namespace F75
variable (P:PT)
abbrev k0:Sk:=[(7,.v)]
def B1:Y k0:=fun a H=>
  P a H
abbrev k1:Sk:=[(2,.i .u64),(3,.x),(7,.v),(8,.v)]
def B3 (P:PT) (a:Y k1):Y k1:=fun b c d e H=>
  sliceK H 2 e (some (I 1)) none 1 (fun f=>a b c d f H)
abbrev k2:Sk:=[(2,.i .u64),(3,.x),(7,.v),(8,.v),(30,.v),(31,J),(32,J)]
def B5 (P:PT) (i:Y k1) (d:Y k2):Y k2:=fun e f g h a b c H=>
  d e f g h a b (i64.wrap (c+1)) H
abbrev k3:Sk:=[(2,.i .u64),(3,.x),(7,.v),(8,.v),(11,J),(30,.v),(31,J),(32,J)]
def B6 (e:Y k1) (f:Y k2):Y k3:=fun g h i j a b c d H=>
  newK H [(I a)] 2 (fun k l=>apK T0 2 l j (slice (some ⟨k,0,none⟩) 1 (1+1)) (fun m n=>B5 P e f g h i m b c d n))
def B7 (g:Y k1) (h:Y k2):Y k3:=fun i j b f a c d e H=>
  idxK f 0 1 (fun k l=>li H k l (fun m=>idxK b m 1 (fun n o=>li H n o (fun p=>idxK b a 1 (fun q r=>stK H q r [(I (i64.wrap (p+1)))] (fun s=>B6 P g h i j b f a c d e s))))))
abbrev k4:Sk:=[(2,.i .u64),(3,.x),(7,.v),(8,.v),(10,J),(11,J),(30,.v),(31,J),(32,J)]
def B8 (g:Y k1) (h:Y k2):Y k4:=fun e i f j k d a b c H=>
  idxK f d 1 (fun m n=>li H m n (fun o=>pif (decide ((o:Int)<0)) (A 110 [(int .u64 e),(I k)] H (fun p l=>asB p (fun q=>pif (!q) (B7 P g h e i f j d a b c l) (B5 P g h e i f j a b c l)))) (B5 P g h e i f j a b c H)))
abbrev k5:Sk:=[(2,.i .u64),(3,.x),(7,.v),(8,.v),(10,J),(30,.v),(31,J),(32,J)]
def B9 (k:Y k1) (l:Y k2):Y k5:=fun m g n h a b c d H=>
  ld1 H g 1 (fun o=>idxK o a 2 (fun i j=>li H i j (fun p=>li H i (j+1) (fun q=>idxK h 0 1 (fun r s=>li H r s (fun t=>A 133 [(agg ⟨[(I p),(I q)]⟩),(I t)] H (fun u e=>asI .i64 u (fun f=>B8 P k l m g n h a f b c d e))))))))
def B10 (d:Y k1) (e:Y k2):Y k2:=fun f g h i a c b H=>
  idxK a b 1 (fun j k=>li H j k (fun l=>B9 P d e f g h i l a c b H))
def B11 (d:Y k1) (i:Y k2):Y k2:=fun e f g h c a b H=>
  pif (decide ((b:Int)<a)) (B10 P d i e f g h c a b H) (B3 P d e f g h H)
def L4 (s:Y k1):Y k2:=fun t u v w g h i H=>
  ∃ (I:Y k2) (μ:NTy k2 (AHeap→Nat)),I t u v w g h i H∧∀ j k l m a b c G,I j k l m a b c G→B11 P s (fun n o p q d e f r=>I n o p q d e f r∧μ n o p q d e f r<μ j k l m a b c G) j k l m a b c G
def B12 (d:Y k1):Y k1:=fun e a f b H=>
  li H a 0 (fun g=>ld1 H a 1 (fun h=>idxK b 0 1 (fun i j=>li H i j (fun k=>A 106 [(agg ⟨[(I g),h]⟩),(I k)] H (fun c l=>lenK c (fun m=>L4 P d e a f b c (m:Int) 0 l))))))
def B13 (c:Y k1):Y k1:=fun d e a b H=>
  lenK b (fun f=>pif (decide (((f:Int):Int)>0)) (B12 P c d e a b H) (B1 P a H))
def L2:Y k1:=fun j k l m H=>
  ∃ (I:Y k1) (μ:NTy k1 (AHeap→Nat)),I j k l m H∧∀ a b c d G,I a b c d G→B13 P (fun e f g h i=>I e f g h i∧μ e f g h i<μ a b c d G) a b c d G
abbrev k6:Sk:=[(1,J),(2,.i .u64),(3,.x),(7,.v)]
def B14:Y k6:=fun a b c d H=>
  newK H [(I a)] 2 (fun e f=>L2 P b c d (slice (some ⟨e,0,none⟩) 1 (1+1)) f)
def B15:Y k6:=fun a c d b H=>
  idxK b a 1 (fun e f=>stK H e f [(I 0)] (fun g=>B14 P a c d b g))
abbrev k7:Sk:=[(1,J),(2,.i .u64),(3,.x)]
def B16:Y k7:=fun c d a H=>
  newK H [(I (-1))] 2 (fun e b=>li b a 0 (fun f=>A 132 [(slice (some ⟨e,0,none⟩) 1 (1+1)),(I f)] b (fun g h=>B15 P c d a g h)))
abbrev k8:Sk:=[(0,.g [.i,.v]),(1,J),(2,.i .u64)]
def B17:Y k8:=fun a b c d H=>
  newK H [(I a),b] 26 (fun e f=>B16 P c d e f)
theorem main:Z Tryz.f75 72 k8 (B17 P) P:=
  s (B16 P) (s (B15 P) (s (B14 P) (zBW (s (L2 P) (zBC (l (B13 P) (fun N2=>(zBW (zBW (b (cnd 23 (En 72 k1 (B12 P N2)) (En 72 k0 (B1 P)))) (zBN rfl zBS (zBT (fun _ _ h=>h)))) (zBW (zBC (zBW (d [(0,false),(1,false),(2,false),(3,false),(6,false),(4,false),(5,false)] (En 72 k2 (L4 P N2))) (zBC (l (B11 P N2) (fun N4=>(zBW (b (cnd 33 (En 72 k2 (B10 P N2 N4)) (En 72 k1 (B3 P N2)))) (zBW (zBN rfl zBS (zBT (fun _ _ h=>h))) (zBW (zBC (s (B9 P N2 N4) (zBW (d (tf 10) (En 72 k4 (B8 P N2 N4))) (zBW (b (cnd 55 (En 72 k3 (B7 P N2 N4)) (En 72 k2 (B5 P N2 N4)))) (zBN rfl (s (B6 P N2 N4) (a (B5 P N2 N4))) zBS))))) (a N4))))))))) (a N2))))))) (e ()))))
theorem ac (a:Int) (b:Value) (c d:Int) (H:AHeap) (h:B17 P a b c d H):A 75 [(agg ⟨[(I a),b]⟩),(I c),(int .u64 d)] H P:=
  fn Tryz.func75 (main P) h
end F75
namespace F76
variable (P:PT)
abbrev k0:Sk:=[(1,.v),(2,.x)]
def B1:Y k0:=fun c a H=>
  lenK c (fun f=>pif (decide (((f:Int):Int)>0)) (li H a 0 (fun g=>ld1 H a 1 (fun h=>A 50 [(agg ⟨[(I g),h]⟩),c] H (fun i b=>asB i (fun j=>pif j (li b a 0 (fun k=>ld1 b a 1 (fun l=>A 51 [(agg ⟨[(I k),l]⟩),c] b (fun m d=>lenK m (fun e=>P (bool (((e:Int):Int)==1)) d))))) (P (bool false) b)))))) (P (bool false) H))
abbrev k1:Sk:=[(0,.g [.i,.v]),(1,.v)]
def B2:Y k1:=fun a b c H=>
  newK H [(I a),b] 26 (fun d e=>B1 P c d e)
theorem main:Z Tryz.f76 20 k1 (B2 P) P:=
  s (B1 P) (e ())
theorem ac (a:Int) (b c:Value) (H:AHeap) (h:B2 P a b c H):A 76 [(agg ⟨[(I a),b]⟩),c] H P:=
  fn Tryz.func76 (main P) h
end F76
namespace F77
variable (P:PT)
abbrev k0:Sk:=[(4,.v),(5,.b)]
def B1:Y k0:=fun a b H=>
  P (tuple ⟨[a,(bool b)]⟩) H
abbrev k1:Sk:=[(4,.v),(5,.b),(6,J)]
def B3 (P:PT) (a:Y k1):Y k1:=fun b c d H=>
  a b c (i64.wrap (d+1)) H
def B4 (d:Y k1):Y k1:=fun a e b H=>
  idxK a b 1 (fun f g=>li H f g (fun c=>idxK a b 1 (fun h i=>stK H h i [(I (if 0>(i64.wrap (c-1)) then 0 else i64.wrap (c-1)))] (fun j=>B3 P d a e b j))))
def B5 (d:Y k1):Y k1:=fun a b c H=>
  lenK a (fun e=>pif (decide ((c:Int)<(e:Int))) (B4 P d a b c H) (B1 P a b H))
def L2:Y k1:=fun h i j H=>
  ∃ (I:Y k1) (μ:NTy k1 (AHeap→Nat)),I h i j H∧∀ a b c G,I a b c G→B5 P (fun d e f g=>I d e f g∧μ d e f g<μ a b c G) a b c G
def B6:Y k0:=fun a b H=>
  L2 P a b 0 H
abbrev k2:Sk:=[(1,.x)]
def B7:Y k2:=fun a H=>
  li H a 0 (fun b=>ld1 H a 1 (fun c=>A 134 [(agg ⟨[(I b),c]⟩),(I 1),(I 4)] H (fun d e=>tup2 d (fun f g=>asB g (fun h=>B6 P f h e)))))
abbrev k3:Sk:=[(0,.g [.i,.v])]
def B8:Y k3:=fun a b H=>
  newK H [(I a),b] 26 (fun c d=>B7 P c d)
theorem main:Z Tryz.f77 29 k3 (B8 P) P:=
  s (B7 P) (s (B6 P) (zBW (s (L2 P) (zBC (l (B5 P) (fun N2=>(zBW (zBW (b (cnd 15 (En 29 k1 (B4 P N2)) (En 29 k0 (B1 P)))) (zBN rfl zBS (zBT (fun _ _ h=>h)))) (zBW (zBC (a (B3 P N2))) (a N2))))))) (e ())))
theorem ac (a:Int) (b:Value) (H:AHeap) (h:B8 P a b H):A 77 [(agg ⟨[(I a),b]⟩)] H P:=
  fn Tryz.func77 (main P) h
end F77
namespace F78
variable (P:PT)
abbrev k0:Sk:=[(0,.v),(1,.v)]
def B1:Y k0:=fun c a H=>
  lenK a (fun d=>A 60 [c,(I (d:Int))] H (fun e b=>asI .i64 e (fun f=>idxK a f 1 (fun g h=>li b g h (fun i=>P (I i) b)))))
def B2:Y k0:=fun a b H=>
  B1 P a b H
theorem main:Z Tryz.f78 12 k0 (B2 P) P:=
  s (B1 P) (e ())
theorem ac (a b:Value) (H:AHeap) (h:B2 P a b H):A 78 [a,b] H P:=
  fn Tryz.func78 (main P) h
end F78
namespace F79
variable (P:PT)
abbrev k0:Sk:=[(1,.v),(4,.x),(6,.x),(7,.x)]
def B1:Y k0:=fun a b c d H=>
  lenK a (fun e=>ld1 H b 1 (fun f=>lenK f (fun g=>pif (((e:Int):Int)==(g:Int)) (A 92 [a,(func (.func 135) ⟨[]⟩ ⟨[(pointer (some ⟨c,0,none⟩)),(pointer (some ⟨d,0,none⟩))]⟩)] H (fun h i=>asB h (fun j=>P (bool j) i))) (P (bool false) H))))
abbrev k1:Sk:=[(0,.g [.i,.v]),(1,.v),(2,J),(3,J)]
def B2:Y k1:=fun a b c d e H=>
  newK H [(I a),b] 26 (fun f g=>newK g [(I d)] 2 (fun h i=>newK i [(I e)] 2 (fun j k=>B1 P c f h j k)))
theorem main:Z Tryz.f79 20 k1 (B2 P) P:=
  s (B1 P) (e ())
theorem ac (a:Int) (b c:Value) (d e:Int) (H:AHeap) (h:B2 P a b c d e H):A 79 [(agg ⟨[(I a),b]⟩),c,(I d),(I e)] H P:=
  fn Tryz.func79 (main P) h
end F79
namespace F80
variable (P:PT)
abbrev k0:Sk:=[]
def B1:Y k0:=fun H=>
  P (bool true) H
abbrev k1:Sk:=[(1,.v),(5,.v),(30,.v),(31,J),(32,J)]
def B3 (P:PT) (d:Y k1):Y k1:=fun e f a b c H=>
  d e f a b (i64.wrap (c+1)) H
abbrev k2:Sk:=[(1,.v),(5,.v),(6,J),(30,.v),(31,J),(32,J),(37,.g [.i,.i]),(38,J)]
def B5 (P:PT) (k:Y k1) (g:Y k2):Y k2:=fun h i j c d e a b f H=>
  g h i j c d e a b (i64.wrap (f+1)) H
abbrev k3:Sk:=[(1,.v),(5,.v),(6,J),(9,J),(30,.v),(31,J),(32,J),(37,.g [.i,.i]),(38,J)]
def B6 (l:Y k1) (m:Y k2):Y k3:=fun h c i j d e f a b g H=>
  idxK c j 1 (fun n o=>ldI .u64 H n o (fun p=>idxK h i 1 (fun q r=>li H q r (fun k=>((0:Int)≤k)∧(idxK c j 1 (fun s t=>stK H s t [(int .u64 (u64.wrap (BitVec.ofInt 64 p|||BitVec.ofInt 64 (u64.wrap (1*2^(min (Int.toNat k) 64)))).toNat))] (fun u=>B5 P l m h c i d e f a b g u)))))))
def B7 (a:Y k1) (b:Y k2):Y k0:=fun H=>
  P (bool false) H
def B8 (g:Y k1) (h:Y k2):Y k3:=fun i j k l c d e a b f H=>
  idxK j l 1 (fun n o=>ldI .u64 H n o (fun p=>idxK i k 1 (fun q r=>li H q r (fun s=>A 110 [(int .u64 p),(I s)] H (fun t m=>asB t (fun u=>pif u (B7 P g h m) (B6 P g h i j k l c d e a b f m)))))))
def B9 (g:Y k1) (h:Y k2):Y k2:=fun i j k d e f a b c H=>
  bndK c 2 (atK [(I a),(I b)] (Int.toNat c*1) (fun l=>asI .i64 l (fun m=>B8 P g h i j k m d e f a b c H)))
def B10 (g:Y k1) (j:Y k2):Y k2:=fun h i k a b c d e f H=>
  pif (decide ((f:Int)<2)) (B9 P g j h i k a b c d e f H) (B3 P g h i a b c H)
def L4 (z:Y k1):Y k2:=fun C D F o p q i j r H=>
  ∃ (I:Y k2) (μ:NTy k2 (AHeap→Nat)),I C D F o p q i j r H∧∀ s t u e f g a b h G,I s t u e f g a b h G→B10 P z (fun v w x k l m c d n y=>I v w x k l m c d n y∧μ v w x k l m c d n y<μ s t u e f g a b h G) s t u e f g a b h G
abbrev k4:Sk:=[(1,.v),(5,.v),(6,J),(7,.x),(30,.v),(31,J),(32,J)]
def B11 (e:Y k1):Y k4:=fun f g h d a b c H=>
  li H d 0 (fun i=>li H d 1 (fun j=>L4 P e f g h a b c i j 0 H))
def B12 (g:Y k1):Y k1:=fun h i b c a H=>
  idxK b a 2 (fun d e=>li H d e (fun j=>li H d (e+1) (fun k=>newK H [(I 0),(I 0)] 66 (fun f l=>stK l f 0 [(I j),(I k)] (fun m=>B11 P g h i a f b c a m)))))
def B13 (d:Y k1):Y k1:=fun e f c a b H=>
  pif (decide ((b:Int)<a)) (B12 P d e f c a b H) (B1 P H)
def L2:Y k1:=fun o p g h i H=>
  ∃ (I:Y k1) (μ:NTy k1 (AHeap→Nat)),I o p g h i H∧∀ j k a b c G,I j k a b c G→B13 P (fun l m d e f n=>I l m d e f n∧μ l m d e f n<μ j k a b c G) j k a b c G
abbrev k5:Sk:=[(1,.v),(2,.x),(5,.v)]
def B14:Y k5:=fun b c d H=>
  ld1 H c 1 (fun a=>lenK a (fun e=>L2 P b d a (e:Int) 0 H))
abbrev k6:Sk:=[(1,.v),(2,.x)]
def B15:Y k6:=fun c a H=>
  li H a 0 (fun b=>mkR H 8 55 [(int .u64 0)] b b (fun d e=>B14 P c a d e))
def B16:Y k0:=fun H=>
  P (bool false) H
def B17:Y k6:=fun d b H=>
  li H b 0 (fun f=>ld1 H b 1 (fun g=>A 113 [(agg ⟨[(I f),g]⟩)] H (fun h c=>asB h (fun i=>pif (!i) (B16 P c) (lenK d (fun j=>ld1 c b 1 (fun k=>lenK k (fun l=>pif (((j:Int):Int) != (l:Int)) (B16 P c) (A 92 [d,(func (.func 136) ⟨[]⟩ ⟨[]⟩)] c (fun m a=>asB m (fun e=>pif (!e) (B16 P a) (B15 P d b a))))))))))))
abbrev k7:Sk:=[(0,.g [.i,.v]),(1,.v)]
def B18:Y k7:=fun a b c H=>
  newK H [(I a),b] 26 (fun d e=>B17 P c d e)
theorem main:Z Tryz.f80 63 k7 (B18 P) P:=
  s (B17 P) (zBW (zBW (b (cnd 25 (En 63 k0 (B16 P)) (En 63 k6 (B15 P)))) (zBN rfl (e ()) zBS)) (s (B14 P) (zBW (s (L2 P) (zBC (l (B13 P) (fun N2=>(zBW (b (cnd 33 (En 63 k1 (B12 P N2)) (En 63 k0 (B1 P)))) (zBW (zBN rfl zBS (zBT (fun _ _ h=>h))) (zBW (zBC (s (B11 P N2) (s (L4 P N2) (zBC (l (B10 P N2) (fun N4=>(zBW (b (cnd 39 (En 63 k2 (B9 P N2 N4)) (En 63 k1 (B3 P N2)))) (zBW (zBN rfl zBS (zBT (fun _ _ h=>h))) (zBW (zBC (s (B8 P N2 N4) (zBW (zBW (d (tf 9) (cnd 49 (En 63 k0 (B7 P N2 N4)) (En 63 k3 (B6 P N2 N4)))) (zBN rfl (e ()) zBS)) (d (tf 12) (En 63 k2 (B5 P N2 N4)))))) (a N4)))))))))) (a N2)))))))) (e ()))))
theorem ac (a:Int) (b c:Value) (H:AHeap) (h:B18 P a b c H):A 80 [(agg ⟨[(I a),b]⟩),c] H P:=
  fn Tryz.func80 (main P) h
end F80
namespace F81
variable (P:PT)
abbrev k0:Sk:=[(0,J),(1,J),(2,J)]
def B1:Y k0:=fun a b c H=>
  pif (decide ((a:Int)≥b)) (P (bool (decide ((a:Int)≤c))) H) (P (bool false) H)
def B2:Y k0:=fun a b c H=>
  B1 P a b c H
theorem main:Z Tryz.f81 15 k0 (B2 P) P:=
  s (B1 P) (e ())
theorem ac (a b c:Int) (H:AHeap) (h:B2 P a b c H):A 81 [(I a),(I b),(I c)] H P:=
  fn Tryz.func81 (main P) h
end F81
namespace F82
variable (P:PT)
abbrev k0:Sk:=[(5,.v)]
def B1:Y k0:=fun a H=>
  P a H
abbrev k1:Sk:=[(1,J),(2,.x),(5,.v),(6,J)]
def B3 (P:PT) (a:Y k1):Y k1:=fun b c d e H=>
  a b c d (i64.wrap (e+1)) H
def B4 (b:Y k1):Y k1:=fun c d e a H=>
  newK H [(I a)] 2 (fun f g=>apK T0 2 g e (slice (some ⟨f,0,none⟩) 1 (1+1)) (fun h i=>B3 P b c d h a i))
def B5 (d:Y k1):Y k1:=fun a b e c H=>
  ld1 H b 1 (fun f=>idxK f c 2 (fun g h=>li H g h (fun i=>pif ((i:Int)==a) (B4 P d a b e c H) (ld1 H b 1 (fun j=>idxK j c 2 (fun k l=>li H k (l+1) (fun m=>pif ((m:Int)==a) (B4 P d a b e c H) (B3 P d a b e c H))))))))
def B6 (d:Y k1):Y k1:=fun e a b c H=>
  ld1 H a 1 (fun f=>lenK f (fun g=>pif (decide ((c:Int)<(g:Int))) (B5 P d e a b c H) (B1 P b H)))
def L2:Y k1:=fun j k l m H=>
  ∃ (I:Y k1) (μ:NTy k1 (AHeap→Nat)),I j k l m H∧∀ a b c d G,I a b c d G→B6 P (fun e f g h i=>I e f g h i∧μ e f g h i<μ a b c d G) a b c d G
abbrev k2:Sk:=[(1,J),(2,.x),(5,.v)]
def B7:Y k2:=fun a b c H=>
  L2 P a b c 0 H
abbrev k3:Sk:=[(1,J),(2,.x)]
def B8:Y k3:=fun a b H=>
  newK H [] 2 (fun c d=>B7 P a b (slice (some ⟨c,0,none⟩) 0 (0+1)) d)
abbrev k4:Sk:=[(0,.g [.i,.v]),(1,J)]
def B9:Y k4:=fun a b c H=>
  newK H [(I a),b] 26 (fun d e=>B8 P c d e)
theorem main:Z Tryz.f82 38 k4 (B9 P) P:=
  s (B8 P) (s (B7 P) (zBW (s (L2 P) (zBC (l (B6 P) (fun N2=>(zBW (zBW (b (cnd 12 (En 38 k1 (B5 P N2)) (En 38 k0 (B1 P)))) (zBN rfl zBS (zBT (fun _ _ h=>h)))) (zBW (zBC (zBW (b (cnd 32 (En 38 k1 (B4 P N2)) (En 38 k1 (B3 P N2)))) (zBN rfl (a (B3 P N2)) zBS))) (a N2))))))) (e ())))
theorem ac (a:Int) (b:Value) (c:Int) (H:AHeap) (h:B9 P a b c H):A 82 [(agg ⟨[(I a),b]⟩),(I c)] H P:=
  fn Tryz.func82 (main P) h
end F82
namespace F83
variable (P:PT)
abbrev k0:Sk:=[(1,.v),(2,.x)]
def B1:Y k0:=fun a b H=>
  A 137 [a,(func (.func 138) ⟨[]⟩ ⟨[(pointer (some ⟨b,0,none⟩))]⟩)] H (fun c d=>asB c (fun e=>P (bool e) d))
abbrev k1:Sk:=[(0,.g [.i,.v]),(1,.v)]
def B2:Y k1:=fun a b c H=>
  newK H [(I a),b] 26 (fun d e=>B1 P c d e)
theorem main:Z Tryz.f83 8 k1 (B2 P) P:=
  s (B1 P) (e ())
theorem ac (a:Int) (b c:Value) (H:AHeap) (h:B2 P a b c H):A 83 [(agg ⟨[(I a),b]⟩),c] H P:=
  fn Tryz.func83 (main P) h
end F83
namespace F84
variable (P:PT)
abbrev k0:Sk:=[(5,.v)]
def B1:Y k0:=fun a H=>
  A 139 [a,(func (.func 140) ⟨[]⟩ ⟨[]⟩)] H (fun b c=>asB b (fun d=>P (bool d) c))
abbrev k1:Sk:=[(2,.x),(5,.v),(14,.v),(15,J),(16,J)]
def B3 (P:PT) (d:Y k1):Y k1:=fun e f a b c H=>
  d e f a b (i64.wrap (c+1)) H
abbrev k2:Sk:=[(2,.x),(5,.v),(14,.v),(15,J),(16,J),(25,.v),(26,J),(27,J)]
def B5 (P:PT) (j:Y k1) (g:Y k2):Y k2:=fun h i a b c d e f H=>
  g h i a b c d e (i64.wrap (f+1)) H
abbrev k3:Sk:=[(2,.x),(5,.v),(9,J),(14,.v),(15,J),(16,J),(25,.v),(26,J),(27,J)]
def B6 (i:Y k1) (j:Y k2):Y k3:=fun k a h b c d e f g H=>
  idxK a h 1 (fun l m=>li H l m (fun n=>idxK a h 1 (fun o p=>stK H o p [(I (i64.wrap (n+1)))] (fun q=>B5 P i j k a b c d e f g q))))
def B7 (g:Y k1) (h:Y k2):Y k2:=fun i j c d e a f b H=>
  idxK a b 1 (fun k l=>li H k l (fun m=>B6 P g h i j m c d e a f b H))
def B8 (g:Y k1) (j:Y k2):Y k2:=fun h i a b c f d e H=>
  pif (decide ((e:Int)<d)) (B7 P g j h i a b c f d e H) (B3 P g h i a b c H)
def L4 (x:Y k1):Y k2:=fun y z m n o p q r H=>
  ∃ (I:Y k2) (μ:NTy k2 (AHeap→Nat)),I y z m n o p q r H∧∀ s t a b c d e f G,I s t a b c d e f G→B8 P x (fun u v g h i j k l w=>I u v g h i j k l w∧μ u v g h i j k l w<μ s t a b c d e f G) s t a b c d e f G
abbrev k4:Sk:=[(2,.x),(5,.v),(7,.v),(14,.v),(15,J),(16,J)]
def B9 (e:Y k1):Y k4:=fun f g d a b c H=>
  lenK d (fun h=>L4 P e f g a b c d (h:Int) 0 H)
abbrev k5:Sk:=[]
def B10 (a:Y k1):Y k5:=fun H=>
  P (bool false) H
def B11 (e:Y k1):Y k4:=fun a i f b c d H=>
  li H a 0 (fun j=>ld1 H a 1 (fun k=>A 46 [f] H (fun l g=>asI .u64 l (fun m=>(AHeap.le H g)∧(A 52 [(agg ⟨[(I j),k]⟩),(int .u64 m)] g (fun n h=>asB n (fun o=>pif (!o) (B10 P e h) (B9 P e a i f b c d h))))))))
def B12 (d:Y k1):Y k1:=fun e f a c b H=>
  idxK a b 1 (fun g h=>ld1 H g h (fun i=>B11 P d e f i a c b H))
def B13 (e:Y k1):Y k1:=fun f d c a b H=>
  pif (decide ((b:Int)<a)) (B12 P e f d c a b H) (B1 P d H)
def L2:Y k1:=fun o p g h i H=>
  ∃ (I:Y k1) (μ:NTy k1 (AHeap→Nat)),I o p g h i H∧∀ j k a b c G,I j k a b c G→B13 P (fun l m d e f n=>I l m d e f n∧μ l m d e f n<μ j k a b c G) j k a b c G
abbrev k6:Sk:=[(1,.v),(2,.x),(5,.v)]
def B14:Y k6:=fun a b c H=>
  lenK a (fun d=>L2 P b c a (d:Int) 0 H)
abbrev k7:Sk:=[(1,.v),(2,.x)]
def B15:Y k7:=fun c a H=>
  ld1 H a 1 (fun d=>lenK d (fun b=>mkR H 8 3 [(I 0)] (b:Int) (b:Int) (fun e f=>B14 P c a e f)))
abbrev k8:Sk:=[(0,.g [.i,.v]),(1,.v)]
def B16:Y k8:=fun a b c H=>
  newK H [(I a),b] 26 (fun d e=>B15 P c d e)
theorem main:Z Tryz.f84 41 k8 (B16 P) P:=
  s (B15 P) (s (B14 P) (zBW (s (L2 P) (zBC (l (B13 P) (fun N2=>(zBW (b (cnd 17 (En 41 k1 (B12 P N2)) (En 41 k0 (B1 P)))) (zBW (zBN rfl zBS (zBT (fun _ _ h=>h))) (zBW (zBC (s (B11 P N2) (zBW (zBW (d [(0,false),(1,false),(2,true),(3,false),(4,false)] (cnd 24 (En 41 k5 (B10 P N2)) (En 41 k4 (B9 P N2)))) (zBN rfl (e ()) zBS)) (s (L4 P N2) (zBC (l (B8 P N2) (fun N4=>(zBW (b (cnd 28 (En 41 k2 (B7 P N2 N4)) (En 41 k1 (B3 P N2)))) (zBW (zBN rfl zBS (zBT (fun _ _ h=>h))) (zBW (zBC (s (B6 P N2 N4) (a (B5 P N2 N4)))) (a N4))))))))))) (a N2)))))))) (e ())))
theorem ac (a:Int) (b c:Value) (H:AHeap) (h:B16 P a b c H):A 84 [(agg ⟨[(I a),b]⟩),c] H P:=
  fn Tryz.func84 (main P) h
end F84
namespace F85
variable (P:PT)
abbrev k0:Sk:=[(6,J)]
def B1:Y k0:=fun a H=>
  P (tuple ⟨[(I a),(I 0)]⟩) H
abbrev k1:Sk:=[(2,.x),(3,.x),(6,J),(14,.v),(15,J),(16,J)]
def B3 (P:PT) (d:Y k1):Y k1:=fun e f g a b c H=>
  d e f g a b (i64.wrap (c+1)) H
abbrev k2:Sk:=[(2,.x),(3,.x),(6,J),(9,.x),(14,.v),(15,J),(16,J)]
def B4 (d:Y k1):Y k2:=fun e f g h a b c H=>
  li H h 0 (fun i=>B3 P d e f (i64.wrap (g*i)) a b c H)
abbrev k3:Sk:=[(2,.x),(3,.x),(6,J),(8,.v),(9,.x),(14,.v),(15,J),(16,J)]
def B5 (g:Y k1):Y k3:=fun b a h i f c d e H=>
  li H b 0 (fun j=>ld1 H b 1 (fun k=>ld1 H a 0 (fun l=>ld1 H a 1 (fun m=>ld1 H a 2 (fun n=>A 142 [(agg ⟨[(I j),k]⟩),(agg ⟨[l,m,n]⟩),i,(func (.func 143) ⟨[]⟩ ⟨[(pointer (some ⟨f,0,none⟩))]⟩)] H (fun o p=>asB o (fun q=>B4 P g b a h f c d e p)))))))
abbrev k4:Sk:=[(2,.x),(3,.x),(6,J),(8,.v),(14,.v),(15,J),(16,J)]
def B6 (d:Y k1):Y k4:=fun e f g h a b c H=>
  newK H [(I 0)] 2 (fun i j=>B5 P d e f g h i a b c j)
def B7 (d:Y k1):Y k1:=fun e f g a c b H=>
  idxK a b 1 (fun h i=>ld1 H h i (fun j=>B6 P d e f g j a c b H))
def B8 (e:Y k1):Y k1:=fun f g d c a b H=>
  pif (decide ((b:Int)<a)) (B7 P e f g d c a b H) (B1 P d H)
def L2:Y k1:=fun q r s g h i H=>
  ∃ (I:Y k1) (μ:NTy k1 (AHeap→Nat)),I q r s g h i H∧∀ j k l a b c G,I j k l a b c G→B8 P (fun m n o d e f p=>I m n o d e f p∧μ m n o d e f p<μ j k l a b c G) j k l a b c G
abbrev k5:Sk:=[(2,.x),(3,.x),(6,J)]
def B9:Y k5:=fun a c d H=>
  li H a 0 (fun e=>ld1 H a 1 (fun f=>A 141 [(agg ⟨[(I e),f]⟩)] H (fun b g=>lenK b (fun h=>L2 P a c d b (h:Int) 0 g))))
abbrev k6:Sk:=[(2,.x),(3,.x)]
def B10:Y k6:=fun a b H=>
  B9 P a b 1 H
abbrev k7:Sk:=[]
def B11:Y k7:=fun H=>
  P (tuple ⟨[(I 0),(I 3)]⟩) H
def B12:Y k6:=fun a b H=>
  li H a 0 (fun c=>pif (decide ((c:Int)>12)) (B11 P H) (B10 P a b H))
abbrev k8:Sk:=[(0,.g [.i,.v]),(1,.g [.v,.v,.v])]
def B13:Y k8:=fun a b c d e H=>
  newK H [(I a),b] 26 (fun f g=>newK g [c,d,e] 96 (fun h i=>B12 P f h i))
theorem main:Z Tryz.f85 30 k8 (B13 P) P:=
  s (B12 P) (zBW (zBW (b (cnd 12 (En 30 k7 (B11 P)) (En 30 k6 (B10 P)))) (zBN rfl (e ()) zBS)) (s (B9 P) (zBW (s (L2 P) (zBC (l (B8 P) (fun N2=>(zBW (b (cnd 17 (En 30 k1 (B7 P N2)) (En 30 k0 (B1 P)))) (zBW (zBN rfl zBS (zBT (fun _ _ h=>h))) (zBW (zBC (s (B6 P N2) (s (B5 P N2) (s (B4 P N2) (a (B3 P N2)))))) (a N2)))))))) (e ()))))
theorem ac (a:Int) (b c d e:Value) (H:AHeap) (h:B13 P a b c d e H):A 85 [(agg ⟨[(I a),b]⟩),(agg ⟨[c,d,e]⟩)] H P:=
  fn Tryz.func85 (main P) h
end F85
namespace F86
variable (P:PT)
abbrev k0:Sk:=[(0,.x)]
def B1:Y k0:=fun a H=>
  A 144 [(I 1),(I 3)] H (fun c d=>pif (Value.oneCell' c) (stK d a 0 [c,(func (.func 145) ⟨[]⟩ ⟨[]⟩),(func (.func 146) ⟨[]⟩ ⟨[]⟩)] (fun b=>ld1 b a 0 (fun e=>ld1 b a 1 (fun f=>ld1 b a 2 (fun g=>P (agg ⟨[e,f,g]⟩) b))))) False)
abbrev k1:Sk:=[]
def B2:Y k1:=fun H=>
  newK H [(slice none 0 0),Value.nilFunc,Value.nilFunc] 96 (fun a b=>B1 P a b)
theorem main:Z Tryz.f86 3 k1 (B2 P) P:=
  s (B1 P) (e ())
theorem ac (H:AHeap) (h:B2 P H):A 86 [] H P:=
  fn Tryz.func86 (main P) h
end F86
namespace F87
variable (P:PT)
abbrev k0:Sk:=[(2,.x),(4,.x),(5,.v)]
def B1:Y k0:=fun a c d H=>
  li H c 0 (fun e=>ld1 H c 1 (fun f=>stK H a 0 [(I e),f] (fun b=>li b a 0 (fun g=>ld1 b a 1 (fun h=>P (tuple ⟨[(agg ⟨[(I g),h]⟩),d]⟩) b)))))
def B2:Y k0:=fun a b c H=>
  sliceK H 27 c (some (I 1)) none 1 (fun d=>B1 P a b d H)
def B3:Y k0:=fun b c a H=>
  lenK a (fun d=>pif (decide (((d:Int):Int)>0)) (B2 P b c a H) (B1 P b c a H))
abbrev k1:Sk:=[(0,.v),(2,.x),(4,.x),(5,.v)]
def B4:Y k1:=fun c d a e H=>
  li H a 0 (fun f=>ld1 H a 1 (fun g=>A 59 [c,(agg ⟨[(I f),g]⟩)] H (fun b h=>pif (Value.oneCell' b) (newK h [b] 27 (fun i j=>apK T0 27 j e (slice (some ⟨i,0,none⟩) 1 (1+1)) (fun k l=>B1 P d a k l))) False)))
def B5:Y k1:=fun c d a e H=>
  ld1 H a 1 (fun f=>lenK f (fun g=>A 61 [c,(I (g:Int)),(I 3)] H (fun b h=>pif (Value.oneCell' b) (newK h [b] 27 (fun i j=>apK T0 27 j e (slice (some ⟨i,0,none⟩) 1 (1+1)) (fun k l=>B1 P d a k l))) False)))
abbrev k2:Sk:=[(0,.v),(2,.x),(4,.x),(5,.v),(93,J)]
def B6:Y k2:=fun e b c d a H=>
  pif ((a:Int)==2) (B5 P e b c d H) (B1 P b c d H)
def B7:Y k2:=fun b c d e a H=>
  pif ((a:Int)==1) (B4 P b c d e H) (B6 P b c d e a H)
def B8:Y k2:=fun e b c d a H=>
  pif ((a:Int)==0) (B3 P b c d H) (B7 P e b c d a H)
def B9:Y k1:=fun a b c d H=>
  A 60 [a,(I 12)] H (fun e f=>asI .i64 e (fun g=>B8 P a b c d g f))
abbrev k3:Sk:=[(0,.v),(2,.x),(4,.x),(6,.v)]
def B10:Y k3:=fun b c a d H=>
  li H a 0 (fun e=>ld1 H a 1 (fun f=>A 26 [(agg ⟨[(I e),f]⟩),d] H (fun g h=>tup2 g (fun i j=>asI .i64 j (fun k=>B9 P b c a i h)))))
abbrev k4:Sk:=[(0,.v),(2,.x),(4,.x),(5,.v),(6,.v),(7,.b)]
def B11:Y k4:=fun a b c d e f H=>
  pif f (B10 P a b c e H) (B9 P a b c d H)
def B12:Y k1:=fun b c a d H=>
  li H a 0 (fun e=>ld1 H a 1 (fun f=>A 77 [(agg ⟨[(I e),f]⟩)] H (fun g h=>tup2 g (fun i j=>asB j (fun k=>B11 P b c a d i k h)))))
abbrev k5:Sk:=[(0,.v),(2,.x),(4,.x),(5,.v),(8,J)]
def B14 (P:PT) (a:Y k5):Y k5:=fun b c d e f H=>
  a b c d e (i64.wrap (f+1)) H
abbrev k6:Sk:=[(0,.v),(2,.x),(4,.x),(8,J),(12,.v)]
def B15 (a:Y k5):Y k6:=fun c d e f b H=>
  B14 P a c d e b f H
abbrev k7:Sk:=[(0,.v),(2,.x),(4,.x),(5,.v),(8,J),(10,.b),(12,.v)]
def B16 (a:Y k5):Y k7:=fun d e f h g b c H=>
  pif b (B15 P a d e f g c H) (B14 P a d e f h g H)
abbrev k8:Sk:=[(0,.v),(2,.x),(4,.x),(5,.v),(8,J),(10,.b),(12,.v),(13,J)]
def B18 (P:PT) (e:Y k5) (a:Y k8):Y k8:=fun f g h i j b c d H=>
  a f g h i j b c (i64.wrap (d+1)) H
def B19 (c:Y k5) (d:Y k8):Y k8:=fun g h e i j k a b H=>
  pif k (idxK a b 1 (fun s t=>ld1 H s t (fun u=>ld1 H e 1 (fun v=>lenK v (fun w=>A 111 [u,(I (w:Int))] H (fun x f=>asI .i64 x (fun y=>pif ((y:Int)==0) (li f e 0 (fun z=>ld1 f e 1 (fun l=>idxK a b 1 (fun m n=>ld1 f m n (fun o=>A 76 [(agg ⟨[(I z),l]⟩),o] f (fun p q=>asB p (fun r=>B18 P c d g h e i j r a b q))))))) (B18 P c d g h e i j false a b f)))))))) (B18 P c d g h e i j false a b H)
def B20 (c:Y k5) (d:Y k8):Y k8:=fun g h i j k e a b H=>
  idxK a b 1 (fun l m=>ld1 H l m (fun n=>A 147 [n] H (fun f o=>idxK a b 1 (fun p q=>pif (Value.oneCell' f) (stK o p q [f] (fun r=>B19 P c d g h i j k e a b r)) False))))
def B21 (b:Y k5) (e:Y k8):Y k8:=fun f g h i j c a d H=>
  lenK a (fun k=>pif (decide ((d:Int)<(k:Int))) (B20 P b e f g h i j c a d H) (B16 P b f g h i j c a H))
def L17 (g:Y k5):Y k8:=fun v w x y z h i j H=>
  ∃ (I:Y k8) (μ:NTy k8 (AHeap→Nat)),I v w x y z h i j H∧∀ k l m n o a b c G,I k l m n o a b c G→B21 P g (fun p q r s t d e f u=>I p q r s t d e f u∧μ p q r s t d e f u<μ k l m n o a b c G) k l m n o a b c G
def B22 (a:Y k5):Y k7:=fun d e f g h b c H=>
  L17 P a d e f g h b c 0 H
abbrev k9:Sk:=[(0,.v),(2,.x),(4,.x),(5,.v),(8,J),(9,.v),(10,.b)]
def B23 (a:Y k5):Y k9:=fun d e b f g h c H=>
  li H b 0 (fun i=>ld1 H b 1 (fun j=>A 99 [(agg ⟨[(I i),j]⟩),h] H (fun k l=>B22 P a d e b f g c k l)))
abbrev k10:Sk:=[(0,.v),(2,.x),(4,.x),(5,.v),(8,J),(9,.v),(10,.b),(11,J)]
def B25 (P:PT) (d:Y k5) (a:Y k10):Y k10:=fun e f g h i j b c H=>
  a e f g h i j b (i64.wrap (c+1)) H
def B26 (a:Y k5) (b:Y k10):Y k10:=fun e f g h i j c d H=>
  A 60 [e,(I 2)] H (fun k l=>asI .i64 k (fun m=>newK l [(I m)] 2 (fun n o=>apK T0 2 o j (slice (some ⟨n,0,none⟩) 1 (1+1)) (fun p q=>B25 P a b e f g h i p c d q))))
def B27 (a:Y k5) (d:Y k10):Y k10:=fun f g e h i j b c H=>
  li H e 0 (fun k=>pif (decide ((c:Int)<k)) (B26 P a d f g e h i j b c H) (B23 P a f g e h i j b H))
def L24 (e:Y k5):Y k10:=fun u v w x y z f g H=>
  ∃ (I:Y k10) (μ:NTy k10 (AHeap→Nat)),I u v w x y z f g H∧∀ h i j k l m a b G,I h i j k l m a b G→B27 P e (fun n o p q r s c d t=>I n o p q r s c d t∧μ n o p q r s c d t<μ h i j k l m a b G) h i j k l m a b G
def B28 (a:Y k5):Y k9:=fun c d e f g h b H=>
  L24 P a c d e f g h b 0 H
def B29 (a:Y k5):Y k5:=fun b c d e f H=>
  newK H [] 2 (fun g h=>B28 P a b c d e f (slice (some ⟨g,0,none⟩) 0 (0+1)) true h)
def B30 (b:Y k5):Y k5:=fun c d e a f H=>
  pif (decide ((f:Int)<30)) (lenK a (fun g=>pif (((g:Int):Int)==0) (B29 P b c d e a f H) (B9 P c d e a H))) (B9 P c d e a H)
def L13:Y k5:=fun l m n o p H=>
  ∃ (I:Y k5) (μ:NTy k5 (AHeap→Nat)),I l m n o p H∧∀ a b c d e G,I a b c d e G→B30 P (fun f g h i j k=>I f g h i j k∧μ f g h i j k<μ a b c d e G) a b c d e G
def B31:Y k1:=fun a b c d H=>
  L13 P a b c d 0 H
def B32:Y k1:=fun a b c d H=>
  A 60 [a,(I 2)] H (fun f e=>asI .i64 f (fun g=>pif ((g:Int)==0) (B12 P a b c d e) (B31 P a b c d e)))
abbrev k11:Sk:=[(0,.v),(2,.x)]
def B33:Y k11:=fun c e H=>
  A 65 [c] H (fun f g=>agg2 f (fun h i=>asI .i64 h (fun j=>newK g [] 27 (fun k l=>newK l [(I 0),(slice none 0 0)] 26 (fun d a=>stK a d 0 [(I j),i] (fun b=>B32 P c e d (slice (some ⟨k,0,none⟩) 0 (0+1)) b))))))
abbrev k12:Sk:=[(0,.v)]
def B34:Y k12:=fun a H=>
  newK H [(I 0),(slice none 0 0)] 26 (fun b c=>B33 P a b c)
theorem main:Z Tryz.f87 121 k12 (B34 P) P:=
  s (B33 P) (s (B32 P) (zBW (zBW (b (cnd 19 (En 121 k1 (B12 P)) (En 121 k1 (B31 P)))) (zBN rfl (s (B11 P) (zBW (b (cnd 25 (En 121 k3 (B10 P)) (En 121 k1 (B9 P)))) (zBN rfl (a (B9 P)) zBS))) (s (L13 P) (zBC (l (B30 P) (fun N13=>(zBW (zBW (b (cnd 38 (En 121 k5 (B29 P N13)) (En 121 k1 (B9 P)))) (zBN rfl zBS (zBT (fun _ _ h=>h)))) (zBW (zBC (s (B28 P N13) (zBW (s (L24 P N13) (zBC (l (B27 P N13) (fun N24=>(zBW (zBW (b (cnd 45 (En 121 k10 (B26 P N13 N24)) (En 121 k9 (B23 P N13)))) (zBN rfl zBS (zBT (fun _ _ h=>h)))) (zBW (zBC (a (B25 P N13 N24))) (a N24))))))) (s (B22 P N13) (zBW (s (L17 P N13) (zBC (l (B21 P N13) (fun N17=>(zBW (zBW (b (cnd 59 (En 121 k8 (B20 P N13 N17)) (En 121 k7 (B16 P N13)))) (zBN rfl zBS (zBT (fun _ _ h=>h)))) (zBW (zBC (s (B19 P N13 N17) (d (tf 21) (En 121 k8 (B18 P N13 N17))))) (a N17))))))) (zBW (b (cnd 90 (En 121 k6 (B15 P N13)) (En 121 k5 (B14 P N13)))) (zBN rfl (a (B14 P N13)) zBS))))))) (a N13))))))))) (zBW (s (B8 P) (zBC (zBW (b (cnd 94 (En 121 k0 (B3 P)) (En 121 k2 (B7 P)))) (zBN rfl (zBW (b (cnd 98 (En 121 k0 (B2 P)) (En 121 k0 (B1 P)))) (zBN rfl (a (B1 P)) zBS)) (zBW (b (cnd 101 (En 121 k1 (B4 P)) (En 121 k2 (B6 P)))) (zBN rfl (a (B1 P)) (zBW (b (cnd 109 (En 121 k1 (B5 P)) (En 121 k0 (B1 P)))) (zBN rfl (a (B1 P)) zBS)))))))) (e ()))))
theorem ac (a:Value) (H:AHeap) (h:B34 P a H):A 87 [a] H P:=
  fn Tryz.func87 (main P) h
end F87
namespace F88
variable (P:PT)
abbrev k0:Sk:=[]
def B1:Y k0:=fun H=>
  P (I 0) H
abbrev k1:Sk:=[(1,.v),(2,.x),(5,J)]
def B3 (P:PT) (a:Y k1):Y k1:=fun b c d H=>
  a b c (i64.wrap (d+1)) H
abbrev k2:Sk:=[(6,J)]
def B4 (b:Y k1):Y k2:=fun a H=>
  P (I a) H
abbrev k3:Sk:=[(1,.v),(2,.x),(5,J),(6,J)]
def B5 (a:Y k1):Y k3:=fun c d e b H=>
  pif ((b:Int) != 0) (B4 P a b H) (B3 P a c d e H)
def B6 (d:Y k1):Y k1:=fun a b c H=>
  idxK a c 1 (fun e f=>ld1 H e f (fun g=>ld1 H b 1 (fun h=>lenK h (fun i=>A 111 [g,(I (i:Int))] H (fun j k=>asI .i64 j (fun l=>B5 P d a b c l k))))))
def B7 (c:Y k1):Y k1:=fun a d b H=>
  lenK a (fun e=>pif (decide ((b:Int)<(e:Int))) (B6 P c a d b H) (B1 P H))
def L2:Y k1:=fun h i j H=>
  ∃ (I:Y k1) (μ:NTy k1 (AHeap→Nat)),I h i j H∧∀ a b c G,I a b c G→B7 P (fun d e f g=>I d e f g∧μ d e f g<μ a b c G) a b c G
abbrev k4:Sk:=[(1,.v),(2,.x)]
def B8:Y k4:=fun a b H=>
  L2 P a b 0 H
def B9:Y k0:=fun H=>
  P (I 1) H
def B10:Y k4:=fun c a H=>
  li H a 0 (fun d=>ld1 H a 1 (fun e=>A 72 [(agg ⟨[(I d),e]⟩)] H (fun f b=>asB f (fun g=>pif (!g) (B9 P b) (B8 P c a b)))))
abbrev k5:Sk:=[(0,.g [.i,.v]),(1,.v)]
def B11:Y k5:=fun a b c H=>
  newK H [(I a),b] 26 (fun d e=>B10 P c d e)
theorem main:Z Tryz.f88 27 k5 (B11 P) P:=
  s (B10 P) (zBW (zBW (b (cnd 9 (En 27 k0 (B9 P)) (En 27 k4 (B8 P)))) (zBN rfl (e ()) zBS)) (zBW (s (L2 P) (zBC (l (B7 P) (fun N2=>(zBW (zBW (b (cnd 13 (En 27 k1 (B6 P N2)) (En 27 k0 (B1 P)))) (zBN rfl zBS (zBT (fun _ _ h=>h)))) (zBW (zBC (zBW (d (tf 9) (En 27 k3 (B5 P N2))) (zBW (b (cnd 25 (En 27 k2 (B4 P N2)) (En 27 k1 (B3 P N2)))) (zBN rfl (e ()) zBS)))) (a N2))))))) (e ())))
theorem ac (a:Int) (b c:Value) (H:AHeap) (h:B11 P a b c H):A 88 [(agg ⟨[(I a),b]⟩),c] H P:=
  fn Tryz.func88 (main P) h
end F88
namespace F89
variable (P:PT)
abbrev k0:Sk:=[]
def B1:Y k0:=fun H=>
  P (bool true) H
abbrev k1:Sk:=[(5,.v),(8,J)]
def B3 (P:PT) (a:Y k1):Y k1:=fun b c H=>
  a b (i64.wrap (c+1)) H
def B4 (a:Y k1):Y k0:=fun H=>
  P (bool false) H
def B5 (a:Y k1):Y k1:=fun b c H=>
  idxK b c 1 (fun d e=>li H d e (fun f=>pif ((f:Int) != 2) (B4 P a H) (B3 P a b c H)))
def B6 (c:Y k1):Y k1:=fun a b H=>
  lenK a (fun d=>pif (decide ((b:Int)<(d:Int))) (B5 P c a b H) (B1 P H))
def L2:Y k1:=fun f g H=>
  ∃ (I:Y k1) (μ:NTy k1 (AHeap→Nat)),I f g H∧∀ a b G,I a b G→B6 P (fun c d e=>I c d e∧μ c d e<μ a b G) a b G
abbrev k2:Sk:=[(5,.v)]
def B7:Y k2:=fun a H=>
  L2 P a 0 H
abbrev k3:Sk:=[(1,.v),(2,.x),(5,.v),(6,J)]
def B9 (P:PT) (a:Y k3):Y k3:=fun b c d e H=>
  a b c d (i64.wrap (e+1)) H
abbrev k4:Sk:=[(1,.v),(2,.x),(5,.v),(6,J),(7,J)]
def B11 (P:PT) (g:Y k3) (a:Y k4):Y k4:=fun b c d e f H=>
  a b c d e (i64.wrap (f+1)) H
def B12 (j:Y k3) (a:Y k4):Y k4:=fun f k b g h H=>
  idxK f g 1 (fun l m=>ld1 H l m (fun n=>idxK n h 1 (fun o p=>li H o p (fun i=>idxK b i 1 (fun q r=>li H q r (fun s=>idxK b i 1 (fun c d=>stK H c d [(I (i64.wrap (s+1)))] (fun e=>B11 P j a f k b g h e))))))))
def B13 (d:Y k3) (a:Y k4):Y k4:=fun b e f c g H=>
  idxK b c 1 (fun h i=>ld1 H h i (fun j=>lenK j (fun k=>pif (decide ((g:Int)<(k:Int))) (B12 P d a b e f c g H) (B9 P d b e f c H))))
def L10 (l:Y k3):Y k4:=fun m n o p q H=>
  ∃ (I:Y k4) (μ:NTy k4 (AHeap→Nat)),I m n o p q H∧∀ a b c d e G,I a b c d e G→B13 P l (fun f g h i j k=>I f g h i j k∧μ f g h i j k<μ a b c d e G) a b c d e G
def B14 (a:Y k3):Y k3:=fun b c d e H=>
  L10 P a b c d e 0 H
def B15 (a:Y k3):Y k0:=fun H=>
  P (bool false) H
def B16 (b:Y k3):Y k3:=fun c a f d H=>
  li H a 0 (fun g=>ld1 H a 1 (fun h=>idxK c d 1 (fun i j=>ld1 H i j (fun k=>A 76 [(agg ⟨[(I g),h]⟩),k] H (fun l e=>asB l (fun m=>pif (!m) (B15 P b e) (B14 P b c a f d e)))))))
def B17 (d:Y k3):Y k3:=fun a e b c H=>
  lenK a (fun f=>pif (decide ((c:Int)<(f:Int))) (B16 P d a e b c H) (B7 P b H))
def L8:Y k3:=fun j k l m H=>
  ∃ (I:Y k3) (μ:NTy k3 (AHeap→Nat)),I j k l m H∧∀ a b c d G,I a b c d G→B17 P (fun e f g h i=>I e f g h i∧μ e f g h i<μ a b c d G) a b c d G
abbrev k5:Sk:=[(1,.v),(2,.x),(5,.v)]
def B18:Y k5:=fun a b c H=>
  L8 P a b c 0 H
abbrev k6:Sk:=[(1,.v),(2,.x)]
def B19:Y k6:=fun c a H=>
  ld1 H a 1 (fun d=>lenK d (fun b=>mkR H 8 2 [(I 0)] (b:Int) (b:Int) (fun e f=>B18 P c a e f)))
abbrev k7:Sk:=[(0,.g [.i,.v]),(1,.v)]
def B20:Y k7:=fun a b c H=>
  newK H [(I a),b] 26 (fun d e=>B19 P c d e)
theorem main:Z Tryz.f89 58 k7 (B20 P) P:=
  s (B19 P) (s (B18 P) (zBW (s (L8 P) (zBC (l (B17 P) (fun N8=>(zBW (zBW (b (cnd 16 (En 58 k3 (B16 P N8)) (En 58 k2 (B7 P)))) (zBN rfl zBS (zBT (fun _ _ h=>h)))) (zBW (zBC (zBW (zBW (d (tf 7) (cnd 25 (En 58 k0 (B15 P N8)) (En 58 k3 (B14 P N8)))) (zBN rfl (e ()) zBS)) (s (L10 P N8) (zBC (l (B13 P N8) (fun N10=>(zBW (zBW (b (cnd 32 (En 58 k4 (B12 P N8 N10)) (En 58 k3 (B9 P N8)))) (zBN rfl zBS (zBT (fun _ _ h=>h)))) (zBW (zBC (a (B11 P N8 N10))) (a N10))))))))) (a N8))))))) (zBW (s (L2 P) (zBC (l (B6 P) (fun N2=>(zBW (zBW (b (cnd 50 (En 58 k1 (B5 P N2)) (En 58 k0 (B1 P)))) (zBN rfl zBS (zBT (fun _ _ h=>h)))) (zBW (zBC (zBW (b (cnd 57 (En 58 k0 (B4 P N2)) (En 58 k1 (B3 P N2)))) (zBN rfl (e ()) zBS))) (a N2))))))) (e ()))))
theorem ac (a:Int) (b c:Value) (H:AHeap) (h:B20 P a b c H):A 89 [(agg ⟨[(I a),b]⟩),c] H P:=
  fn Tryz.func89 (main P) h
end F89
namespace F90
variable (P:PT)
abbrev k0:Sk:=[(0,J)]
def B1:Y k0:=fun a H=>
  A 91 [(I a),(I 0),(I 1)] H (fun b c=>asB b (fun d=>P (bool d) c))
def B2:Y k0:=fun a H=>
  B1 P a H
theorem main:Z Tryz.f90 5 k0 (B2 P) P:=
  s (B1 P) (e ())
theorem ac (a:Int) (H:AHeap) (h:B2 P a H):A 90 [(I a)] H P:=
  fn Tryz.func90 (main P) h
end F90
namespace F91
variable (P:PT)
abbrev k0:Sk:=[(0,J),(1,J),(2,J)]
def B1:Y k0:=fun a b c H=>
  pif (decide ((b:Int)≤a)) (P (bool (decide ((a:Int)≤c))) H) (P (bool false) H)
def B2:Y k0:=fun a b c H=>
  B1 P a b c H
theorem main:Z Tryz.f91 15 k0 (B2 P) P:=
  s (B1 P) (e ())
theorem ac (a b c:Int) (H:AHeap) (h:B2 P a b c H):A 91 [(I a),(I b),(I c)] H P:=
  fn Tryz.func91 (main P) h
end F91
namespace F92
variable (P:PT)
abbrev k0:Sk:=[(0,.v),(3,.x)]
def B1:Y k0:=fun a b H=>
  A 148 [a,(func (.func 149) ⟨[]⟩ ⟨[(pointer (some ⟨b,0,none⟩))]⟩)] H (fun c d=>asB c (fun e=>P (bool (!e)) d))
abbrev k1:Sk:=[(0,.v),(1,.v)]
def B2:Y k1:=fun b a H=>
  pif (Value.oneCell' a) (newK H [a] 101 (fun c d=>B1 P b c d)) False
theorem main:Z Tryz.f92 9 k1 (B2 P) P:=
  s (B1 P) (e ())
theorem ac (a b:Value) (H:AHeap) (h:B2 P a b H):A 92 [a,b] H P:=
  fn Tryz.func92 (main P) h
end F92
namespace F93
variable (P:PT)
abbrev k0:Sk:=[(1,.i .u64),(2,.x),(5,.x),(6,.v)]
abbrev k1:Sk:=[(1,.i .u64),(2,.x),(5,.x),(6,.v),(7,J),(9,J)]
def B2 (P:PT) (d:Y k0):Y k1:=fun e a b f g c H=>
  ld1 H a 1 (fun h=>idxK h c 2 (fun i j=>li H i (j+1) (fun k=>stK H b 0 [(I c),(bool ((k:Int)==g))] (fun l=>d e a b f l))))
abbrev k2:Sk:=[(1,.i .u64),(2,.x),(5,.x),(6,.v),(7,J),(8,.i .u64)]
def B3 (b:Y k0):Y k2:=fun c d e f g h H=>
  A 56 [(int .u64 h)] H (fun i a=>idxK i 0 1 (fun j k=>li a j k (fun l=>B2 P b c d e f g l a)))
abbrev k3:Sk:=[(6,.v)]
def B4 (b:Y k0):Y k3:=fun a H=>
  P a H
def B5 (a:Y k0):Y k2:=fun d e f b g c H=>
  pif ((c:Int)==0) (B4 P a b H) (B3 P a d e f b g c H)
abbrev k4:Sk:=[(1,.i .u64),(2,.x),(5,.x),(6,.v),(7,J)]
def B6 (d:Y k0):Y k4:=fun b a e f c H=>
  li H a 0 (fun g=>ld1 H a 1 (fun h=>A 106 [(agg ⟨[(I g),h]⟩),(I c)] H (fun i j=>A 46 [i] j (fun k l=>asI .u64 k (fun m=>B5 P d b a e f c (u64.wrap (BitVec.ofInt 64 m&&&BitVec.ofInt 64 b).toNat) l)))))
def B7 (c:Y k0):Y k0:=fun d a b e H=>
  li H a 0 (fun f=>ld1 H a 1 (fun g=>li H b 0 (fun h=>ld1 H b 1 (fun i=>asB i (fun j=>A 150 [(agg ⟨[(I f),g]⟩),(agg ⟨[(I h),(bool j)]⟩)] H (fun k l=>asI .i64 k (fun m=>B6 P c d a b e m l)))))))
def B8 (c:Y k0):Y k0:=fun d e a f H=>
  li H a 0 (fun b=>((0:Int)≤b)∧(B7 P c (u64.wrap (BitVec.ofInt 64 d&&&~~~(BitVec.ofInt 64 (u64.wrap (1*2^(min (Int.toNat b) 64))))).toNat) e a f H))
def B9 (b:Y k0):Y k0:=fun c d a e H=>
  li H a 0 (fun f=>ld1 H a 1 (fun g=>asB g (fun h=>newK H [(I f),(bool h)] 107 (fun i j=>apK T0 107 j e (slice (some ⟨i,0,none⟩) 1 (1+1)) (fun k l=>B8 P b c d a k l)))))
def L1:Y k0:=fun j k l m H=>
  ∃ (I:Y k0) (μ:NTy k0 (AHeap→Nat)),I j k l m H∧∀ a b c d G,I a b c d G→B9 P (fun e f g h i=>I e f g h i∧μ e f g h i<μ a b c d G) a b c d G
abbrev k5:Sk:=[(1,.i .u64),(2,.x),(5,.x)]
def B10:Y k5:=fun a b c H=>
  L1 P a b c (slice none 0 0) H
abbrev k6:Sk:=[(1,.i .u64),(2,.x)]
def B11:Y k6:=fun a d H=>
  A 56 [(int .u64 a)] H (fun e b=>idxK e 0 1 (fun f g=>li b f g (fun h=>newK b [(I 0),(bool false)] 107 (fun c i=>stK i c 0 [(I h),(bool false)] (fun j=>B10 P a d c j)))))
abbrev k7:Sk:=[(0,.g [.i,.v]),(1,.i .u64)]
def B12:Y k7:=fun a b c H=>
  newK H [(I a),b] 26 (fun d e=>B11 P c d e)
theorem main:Z Tryz.f93 50 k7 (B12 P) P:=
  s (B11 P) (s (B10 P) (s (L1 P) (zBC (l (B9 P) (fun N1=>(zBC (s (B8 P N1) (s (B7 P N1) (s (B6 P N1) (s (B5 P N1) (zBW (zBW (b (cnd 34 (En 50 k3 (B4 P N1)) (En 50 k2 (B3 P N1)))) (zBN rfl (e ()) zBS)) (s (B2 P N1) (a N1)))))))))))))
theorem ac (a:Int) (b:Value) (c:Int) (H:AHeap) (h:B12 P a b c H):A 93 [(agg ⟨[(I a),b]⟩),(int .u64 c)] H P:=
  fn Tryz.func93 (main P) h
end F93
namespace F94
variable (P:PT)
abbrev k0:Sk:=[(1,.v),(2,.x),(5,.v),(6,J),(7,J)]
abbrev k1:Sk:=[(1,.v),(2,.x),(5,.v),(6,J),(7,J),(8,J)]
def B3 (P:PT) (h:Y k0) (a:Y k1):Y k1:=fun b c d e f g H=>
  a b c d e f (i64.wrap (g+1)) H
abbrev k2:Sk:=[(1,.v),(2,.x),(5,.v),(6,J),(8,J)]
def B4 (P:PT) (a:Y k0) (g:Y k1):Y k2:=fun b c d e f H=>
  a b c d e f H
abbrev k3:Sk:=[(1,.v),(2,.x),(5,.v),(6,J),(8,J),(9,.x)]
def B5 (b:Y k0) (c:Y k1):Y k3:=fun d e f g h a H=>
  li H a 0 (fun i=>li H a 1 (fun j=>B4 P b c d e f (i64.wrap ((i64.wrap (i+j))-g)) h H))
def B6 (e:Y k0) (f:Y k1):Y k3:=fun g h a b c d H=>
  li H d 0 (fun i=>idxK a c 1 (fun j k=>stK H j k [(bool ((i:Int)==b))] (fun l=>B5 P e f g h a b c d l)))
abbrev k4:Sk:=[(5,.v)]
def B7 (b:Y k0) (c:Y k1):Y k4:=fun a H=>
  P a H
def B8 (a:Y k0) (b:Y k1):Y k3:=fun e f c g d h H=>
  pif ((d:Int)==0) (B7 P a b c H) (B6 P a b e f c g d h H)
abbrev k5:Sk:=[(1,.v),(2,.x),(5,.v),(6,J),(7,J),(8,J),(9,.x)]
def B9 (c:Y k0) (d:Y k1):Y k5:=fun e f g a i b h H=>
  pif ((b:Int) != i) (li H h 0 (fun j=>pif ((j:Int)==a) (B8 P c d e f g a b h H) (li H h 1 (fun k=>pif ((k:Int)==a) (B8 P c d e f g a b h H) (B3 P c d e f g a i b H))))) (B3 P c d e f g a i b H)
def B10 (i:Y k0) (j:Y k1):Y k1:=fun c d k l m e H=>
  ld1 H d 1 (fun n=>idxK c e 1 (fun o p=>li H o p (fun q=>idxK n q 2 (fun f g=>li H f g (fun r=>li H f (g+1) (fun s=>newK H [(I 0),(I 0)] 66 (fun h a=>stK a h 0 [(I r),(I s)] (fun b=>B9 P i j c d k l m e h b))))))))
def B11 (b:Y k0) (h:Y k1):Y k1:=fun a c d e f g H=>
  lenK a (fun i=>pif (decide ((g:Int)<(i:Int))) (B10 P b h a c d e f g H) (b a c d e f H))
def L2 (n:Y k0):Y k1:=fun o p q r s t H=>
  ∃ (I:Y k1) (μ:NTy k1 (AHeap→Nat)),I o p q r s t H∧∀ a b c d e f G,I a b c d e f G→B11 P n (fun g h i j k l m=>I g h i j k l m∧μ g h i j k l m<μ a b c d e f G) a b c d e f G
def B12 (a:Y k0):Y k0:=fun b c d e f H=>
  L2 P a b c d e f 0 H
def L1:Y k0:=fun l m n o p H=>
  ∃ (I:Y k0) (μ:NTy k0 (AHeap→Nat)),I l m n o p H∧∀ a b c d e G,I a b c d e G→B12 P (fun f g h i j k=>I f g h i j k∧μ f g h i j k<μ a b c d e G) a b c d e G
abbrev k6:Sk:=[(1,.v),(2,.x),(5,.v)]
def B13:Y k6:=fun a b c H=>
  ld1 H b 1 (fun d=>idxK a 0 1 (fun e f=>li H e f (fun g=>idxK d g 2 (fun h i=>li H h (i+1) (fun j=>L1 P a b c j 0 H)))))
def B14:Y k6:=fun b c a H=>
  idxK a 0 1 (fun d e=>stK H d e [(bool true)] (fun f=>B13 P b c a f))
abbrev k7:Sk:=[(1,.v),(2,.x)]
def B15:Y k7:=fun a c H=>
  lenK a (fun b=>mkR H 1 4 [(bool false)] (b:Int) (b:Int) (fun d e=>B14 P a c d e))
abbrev k8:Sk:=[(0,.g [.i,.v]),(1,.v)]
def B16:Y k8:=fun a b c H=>
  newK H [(I a),b] 26 (fun d e=>B15 P c d e)
theorem main:Z Tryz.f94 70 k8 (B16 P) P:=
  s (B15 P) (s (B14 P) (s (B13 P) (zBW (d (tf 10) (En 70 k0 (L1 P))) (zBC (l (B12 P) (fun N1=>(zBC (s (L2 P N1) (zBC (l (B11 P N1) (fun N2=>(zBW (zBW (b (cnd 26 (En 70 k1 (B10 P N1 N2)) (En 70 k0 N1))) (zBN rfl zBS (zBT (fun _ _ h=>h)))) (zBW (zBC (zBW (d (tf 10) (En 70 k5 (B9 P N1 N2))) (zBW (b (cnd 51 (En 70 k3 (B8 P N1 N2)) (En 70 k1 (B3 P N1 N2)))) (zBN rfl (zBW (zBW (b (cnd 53 (En 70 k4 (B7 P N1 N2)) (En 70 k3 (B6 P N1 N2)))) (zBN rfl (e ()) zBS)) (s (B5 P N1 N2) (s (B4 P N1 N2) (s N1 (zBT (fun _ _ h=>h)))))) zBS)))) (a N2))))))))))))))
theorem ac (a:Int) (b c:Value) (H:AHeap) (h:B16 P a b c H):A 94 [(agg ⟨[(I a),b]⟩),c] H P:=
  fn Tryz.func94 (main P) h
end F94
namespace F95
variable (P:PT)
abbrev k0:Sk:=[(2,.x),(4,.v),(5,.x),(6,.v)]
def B1:Y k0:=fun a f e g H=>
  li H e 0 (fun h=>ld1 H e 1 (fun i=>A 62 [f,(agg ⟨[(I h),i]⟩)] H (fun j k=>agg2 j (fun l m=>asI .i64 l (fun n=>stK k a 0 [(I n),m] (fun b=>li b a 0 (fun c=>ld1 b a 1 (fun d=>P (tuple ⟨[(agg ⟨[(I c),d]⟩),g]⟩) b))))))))
def B2:Y k0:=fun a b c d H=>
  newK H [(I 0)] 2 (fun e f=>apK T0 2 f d (slice (some ⟨e,0,none⟩) 1 (1+1)) (fun g h=>B1 P a b c g h))
def B3:Y k0:=fun c a d b H=>
  newK H [(I 2),(I (-1))] 2 (fun e f=>A 78 [a,(slice (some ⟨e,0,none⟩) 2 (2+1))] f (fun g h=>asI .i64 g (fun i=>idxK b 0 1 (fun j k=>stK h j k [(I i)] (fun l=>B1 P c a d b l)))))
abbrev k1:Sk:=[(2,.x),(4,.v),(5,.x),(6,.v),(25,J)]
def B4:Y k1:=fun b c d e a H=>
  pif ((a:Int)==1) (B3 P b c d e H) (B1 P b c d e H)
def B5:Y k1:=fun b c d e a H=>
  pif ((a:Int)==0) (B2 P b c d e H) (B4 P b c d e a H)
def B6:Y k0:=fun b a c d H=>
  A 60 [a,(I 20)] H (fun e f=>asI .i64 e (fun g=>B5 P b a c d g f))
abbrev k2:Sk:=[(2,.x),(4,.v),(5,.x),(6,.v),(7,J)]
def B8 (P:PT) (a:Y k2):Y k2:=fun b c d e f H=>
  a b c d e (i64.wrap (f+1)) H
def B9 (b:Y k2):Y k2:=fun c a d e f H=>
  A 60 [a,(I 2)] H (fun g h=>asI .i64 g (fun i=>newK h [(I i)] 2 (fun j k=>apK T0 2 k e (slice (some ⟨j,0,none⟩) 1 (1+1)) (fun l m=>B8 P b c a d l f m))))
def B10 (f:Y k2):Y k2:=fun b c a d e H=>
  li H a 0 (fun g=>pif (decide ((e:Int)<g)) (B9 P f b c a d e H) (B6 P b c a d H))
def L7:Y k2:=fun l m n o p H=>
  ∃ (I:Y k2) (μ:NTy k2 (AHeap→Nat)),I l m n o p H∧∀ a b c d e G,I a b c d e G→B10 P (fun f g h i j k=>I f g h i j k∧μ f g h i j k<μ a b c d e G) a b c d e G
def B11:Y k0:=fun a b c d H=>
  L7 P a b c d 0 H
abbrev k3:Sk:=[(2,.x),(4,.v)]
def B12:Y k3:=fun e c H=>
  A 58 [c] H (fun f g=>agg2 f (fun h i=>asI .i64 h (fun j=>newK g [] 2 (fun k l=>newK l [(I 0),(slice none 0 0)] 26 (fun d a=>stK a d 0 [(I j),i] (fun b=>B11 P e c d (slice (some ⟨k,0,none⟩) 0 (0+1)) b))))))
abbrev k4:Sk:=[(0,.v),(2,.x)]
def B13:Y k4:=fun a b H=>
  A 57 [a] H (fun c d=>B12 P b c d)
abbrev k5:Sk:=[(0,.v)]
def B14:Y k5:=fun a H=>
  newK H [(I 0),(slice none 0 0)] 26 (fun b c=>B13 P a b c)
theorem main:Z Tryz.f95 42 k5 (B14 P) P:=
  s (B13 P) (s (B12 P) (s (B11 P) (zBW (s (L7 P) (zBC (l (B10 P) (fun N7=>(zBW (zBW (b (cnd 16 (En 42 k2 (B9 P N7)) (En 42 k0 (B6 P)))) (zBN rfl zBS (zBT (fun _ _ h=>h)))) (zBW (zBC (a (B8 P N7))) (a N7))))))) (zBW (s (B5 P) (zBC (zBW (b (cnd 26 (En 42 k0 (B2 P)) (En 42 k1 (B4 P)))) (zBN rfl (a (B1 P)) (zBW (b (cnd 31 (En 42 k0 (B3 P)) (En 42 k0 (B1 P)))) (zBN rfl (a (B1 P)) zBS)))))) (e ())))))
theorem ac (a:Value) (H:AHeap) (h:B14 P a H):A 95 [a] H P:=
  fn Tryz.func95 (main P) h
end F95
namespace F96
variable (P:PT)
def ret (P:PT):EP:=retE T0 14 Tryz.f96 P
abbrev k0:Sk:=[(1,.v),(2,.x)]
def B1:Y k0:=fun b c H=>
  li H c 0 (fun d=>A 151 [b] H (fun e a=>asI .i64 e (fun f=>(AHeap.le H a)∧(pif ((f:Int)==d) (A 92 [b,(func (.func 152) ⟨[]⟩ ⟨[]⟩)] a (fun g h=>asB g (fun i=>P (bool i) h))) (P (bool false) a)))))
abbrev k1:Sk:=[(0,.g [.i,.v]),(1,.v)]
def B2:Y k1:=fun a b c H=>
  newK H [(I a),b] 26 (fun d e=>B1 P c d e)
theorem main:Z Tryz.f96 14 k1 (B2 P) P:=
  s (B1 P) (zBW (d [(0,false),(2,false),(3,false),(1,true),(4,false),(5,false),(6,false),(7,false),(8,false),(9,false)] (ret P)) zBV)
theorem ac (a:Int) (b c:Value) (H:AHeap) (h:B2 P a b c H):A 96 [(agg ⟨[(I a),b]⟩),c] H P:=
  fn Tryz.func96 (main P) h
end F96
namespace F97
variable (P:PT)
abbrev k0:Sk:=[(6,.v)]
def B1:Y k0:=fun a H=>
  P a H
abbrev k1:Sk:=[(1,.v),(2,.x),(5,.v),(6,.v),(15,J),(16,J)]
def B3 (P:PT) (c:Y k1):Y k1:=fun d e f g a b H=>
  c d e f g a (i64.wrap (b+1)) H
abbrev k2:Sk:=[(1,.v),(2,.x),(5,.v),(6,.v),(7,J),(15,J),(16,J),(19,.v),(20,J),(21,J)]
def B5 (P:PT) (l:Y k1) (f:Y k2):Y k2:=fun g h i j k a b c d e H=>
  f g h i j k a b c d (i64.wrap (e+1)) H
abbrev k3:Sk:=[(1,.v),(2,.x),(5,.v),(6,.v),(7,J),(10,.v),(15,J),(16,J),(19,.v),(20,J),(21,J)]
def B6 (g:Y k1) (h:Y k2):Y k3:=fun i j k l m a b c d e f H=>
  pif (Value.oneCell' a) (newK H [a] 27 (fun n o=>apK T0 27 o l (slice (some ⟨n,0,none⟩) 1 (1+1)) (fun p q=>B5 P g h i j k p m b c d e f q))) False
def B7 (g:Y k1) (h:Y k2):Y k3:=fun i j k l m a b c d e f H=>
  lenK a (fun n=>pif (decide (((n:Int):Int)>0)) (B6 P g h i j k l m a b c d e f H) (B5 P g h i j k l m b c d e f H))
abbrev k4:Sk:=[(1,.v),(2,.x),(5,.v),(6,.v),(7,J),(10,.v),(11,.x),(15,J),(16,J),(19,.v),(20,J),(21,J)]
def B9 (P:PT) (z:Y k1) (C:Y k2) (m:Y k4):Y k4:=fun l b n o p c a d e f g h H=>
  li H b 0 (fun q=>ld1 H b 1 (fun r=>li H a 0 (fun s=>ld1 H a 1 (fun t=>asB t (fun u=>A 153 [(agg ⟨[(I q),r]⟩),l,(agg ⟨[(I s),(bool u)]⟩)] H (fun v w=>agg2 v (fun x y=>asI .i64 x (fun i=>asB y (fun j=>stK w a 0 [(I i),(bool j)] (fun k=>m l b n o p c a d e f g h k))))))))))
abbrev k5:Sk:=[(1,.v),(2,.x),(5,.v),(6,.v),(7,J),(10,.v),(15,J),(16,J),(19,.v),(20,J),(21,J),(43,.g [.i,.b])]
def B10 (j:Y k1) (k:Y k2) (l:Y k4):Y k5:=fun m n o p q c d e f g h a b H=>
  newK H [(I 0),(bool false)] 107 (fun i r=>stK r i 0 [(I a),(bool b)] (fun s=>B9 P j k l m n o p q c i d e f g h s))
def B11 (h:Y k1) (i:Y k2) (j:Y k4):Y k4:=fun k l m n o b a c d e f g H=>
  li H a 0 (fun p=>ld1 H a 1 (fun q=>asB q (fun r=>B10 P h i j k l m n o b c d e f g p r H)))
def B12 (h:Y k1) (i:Y k2) (j:Y k4):Y k4:=fun k l m n o b a c d e f g H=>
  li H a 0 (fun p=>newK H [(I p)] 2 (fun q r=>apK T0 2 r b (slice (some ⟨q,0,none⟩) 1 (1+1)) (fun s t=>B11 P h i j k l m n o s a c d e f g t)))
def B13 (i:Y k1) (j:Y k2) (k:Y k4):Y k4:=fun l m h n o b a c d e f g H=>
  li H a 0 (fun p=>ld1 H a 1 (fun q=>asB q (fun r=>mupK Tryz.prog 107 H h (agg ⟨[(I p),(bool r)]⟩) (bool true) (fun s=>B12 P i j k l m h n o b a c d e f g s))))
def B14 (i:Y k1) (j:Y k2) (o:Y k4):Y k4:=fun k l h m n b a c d e f g H=>
  li H a 0 (fun p=>ld1 H a 1 (fun q=>asB q (fun r=>lupK Tryz.prog 107 H h (agg ⟨[(I p),(bool r)]⟩) (bool false) false (fun s=>asB s (fun t=>pif (!t) (B13 P i j o k l h m n b a c d e f g H) (B7 P i j k l h m n b c d e f g H))))))
def L8 (R:Y k1) (S:Y k2):Y k4:=fun T U V X x7 o p q r s t u H=>
  ∃ (I:Y k4) (μ:NTy k4 (AHeap→Nat)),I T U V X x7 o p q r s t u H∧∀ v w x y z a b c d e f g G,I v w x y z a b c d e f g G→B14 P R S (fun C D F K L h i j k l m n Q=>I C D F K L h i j k l m n Q∧μ C D F K L h i j k l m n Q<μ v w x y z a b c d e f g G) v w x y z a b c d e f g G
abbrev k6:Sk:=[(1,.v),(2,.x),(5,.v),(6,.v),(7,J),(9,.b),(10,.v),(15,J),(16,J),(19,.v),(20,J),(21,J)]
def B15 (i:Y k1) (j:Y k2):Y k6:=fun k l m n g o a b c d e f H=>
  newK H [(I 0),(bool false)] 107 (fun h p=>stK p h 0 [(I g),(bool o)] (fun q=>L8 P i j k l m n g a h b c d e f q))
abbrev k7:Sk:=[(1,.v),(2,.x),(5,.v),(6,.v),(7,J),(9,.b),(15,J),(16,J),(19,.v),(20,J),(21,J)]
def B16 (f:Y k1) (g:Y k2):Y k7:=fun h i j k l m a b c d e H=>
  B15 P f g h i j k l m (slice none 0 0) a b c d e H
def B17 (f:Y k1) (g:Y k2):Y k2:=fun h i j k l c d a e b H=>
  idxK a b 1 (fun m n=>ld1 H m n (fun o=>asB o (fun p=>B16 P f g h i j k l p c d a e b H)))
def B18 (f:Y k1) (k:Y k2):Y k2:=fun g h i j l a b e c d H=>
  pif (decide ((d:Int)<c)) (B17 P f k g h i j l a b e c d H) (B3 P f g h i j a b H)
def L4 (C:Y k1):Y k2:=fun D F K L Q k l m n o H=>
  ∃ (I:Y k2) (μ:NTy k2 (AHeap→Nat)),I D F K L Q k l m n o H∧∀ p q r s t a b c d e G,I p q r s t a b c d e G→B18 P C (fun u v w x y f g h i j z=>I u v w x y f g h i j z∧μ u v w x y f g h i j z<μ p q r s t a b c d e G) p q r s t a b c d e G
abbrev k8:Sk:=[(1,.v),(2,.x),(5,.v),(6,.v),(7,J),(15,J),(16,J)]
def B19 (c:Y k1):Y k8:=fun d e f g h a b H=>
  newK H [(bool false),(bool true)] 4 (fun i j=>L4 P c d e f g h a b (slice (some ⟨i,0,none⟩) 2 (2+1)) 2 0 j)
def B20 (c:Y k1):Y k1:=fun d e f g b a H=>
  B19 P c d e f g a b a H
def B21 (d:Y k1):Y k1:=fun e f g c a b H=>
  pif (decide ((b:Int)<a)) (B20 P d e f g c a b H) (B1 P c H)
def L2:Y k1:=fun p q r s e f H=>
  ∃ (I:Y k1) (μ:NTy k1 (AHeap→Nat)),I p q r s e f H∧∀ g h i j a b G,I g h i j a b G→B21 P (fun k l m n c d o=>I k l m n c d o∧μ k l m n c d o<μ g h i j a b G) g h i j a b G
abbrev k9:Sk:=[(1,.v),(2,.x),(5,.v),(6,.v)]
def B22:Y k9:=fun b a c d H=>
  ld1 H a 1 (fun e=>lenK e (fun f=>L2 P b a c d (f:Int) 0 H))
abbrev k10:Sk:=[(1,.v),(2,.x),(5,.v)]
def B23:Y k10:=fun a b c H=>
  B22 P a b c (slice none 0 0) H
abbrev k11:Sk:=[(1,.v),(2,.x)]
def B24:Y k11:=fun a b H=>
  newM H (fun c d=>B23 P a b (Value.map (some c)) d)
abbrev k12:Sk:=[(0,.g [.i,.v]),(1,.v)]
def B25:Y k12:=fun a b c H=>
  newK H [(I a),b] 26 (fun d e=>B24 P c d e)
theorem main:Z Tryz.f97 54 k12 (B25 P) P:=
  s (B24 P) (s (B23 P) (s (B22 P) (zBW (s (L2 P) (zBC (l (B21 P) (fun N2=>(zBW (b (cnd 17 (En 54 k1 (B20 P N2)) (En 54 k0 (B1 P)))) (zBW (zBN rfl zBS (zBT (fun _ _ h=>h))) (zBW (zBC (s (B19 P N2) (s (L4 P N2) (zBC (l (B18 P N2) (fun N4=>(zBW (b (cnd 22 (En 54 k2 (B17 P N2 N4)) (En 54 k1 (B3 P N2)))) (zBW (zBN rfl zBS (zBT (fun _ _ h=>h))) (zBW (zBC (s (B16 P N2 N4) (s (B15 P N2 N4) (zBW (s (L8 P N2 N4) (zBC (l (B14 P N2 N4) (fun N8=>(zBW (zBW (b (cnd 31 (En 54 k4 (B13 P N2 N4 N8)) (En 54 k3 (B7 P N2 N4)))) (zBN rfl zBS (zBT (fun _ _ h=>h)))) (zBW (zBC (s (B12 P N2 N4 N8) (a (B11 P N2 N4 N8)))) (zBW (s (B10 P N2 N4 N8) (a (B9 P N2 N4 N8))) (a N8)))))))) (zBW (b (cnd 46 (En 54 k3 (B6 P N2 N4)) (En 54 k2 (B5 P N2 N4)))) (zBN rfl (a (B5 P N2 N4)) zBS)))))) (a N4)))))))))) (a N2)))))))) (e ()))))
theorem ac (a:Int) (b c:Value) (H:AHeap) (h:B25 P a b c H):A 97 [(agg ⟨[(I a),b]⟩),c] H P:=
  fn Tryz.func97 (main P) h
end F97
namespace F98
variable (P:PT)
abbrev k0:Sk:=[]
def B1:Y k0:=fun H=>
  P (I 0) H
abbrev k1:Sk:=[(1,.v),(5,J)]
def B3 (P:PT) (a:Y k1):Y k1:=fun b c H=>
  a b (i64.wrap (c+1)) H
def B4 (a:Y k1):Y k0:=fun H=>
  P (I 2) H
def B5 (a:Y k1):Y k1:=fun b c H=>
  idxK b c 1 (fun e f=>li H e f (fun g=>A 81 [(I g),(I 0),(I 1)] H (fun h d=>asB h (fun i=>pif (!i) (B4 P a d) (B3 P a b c d)))))
def B6 (c:Y k1):Y k1:=fun a b H=>
  lenK a (fun d=>pif (decide ((b:Int)<(d:Int))) (B5 P c a b H) (B1 P H))
def L2:Y k1:=fun f g H=>
  ∃ (I:Y k1) (μ:NTy k1 (AHeap→Nat)),I f g H∧∀ a b G,I a b G→B6 P (fun c d e=>I c d e∧μ c d e<μ a b G) a b G
abbrev k2:Sk:=[(1,.v)]
def B7:Y k2:=fun a H=>
  L2 P a 0 H
def B8:Y k0:=fun H=>
  P (I 2) H
abbrev k3:Sk:=[(1,.v),(2,.x)]
def B9:Y k3:=fun a b H=>
  lenK a (fun c=>li H b 0 (fun d=>pif (((c:Int):Int) != d) (B8 P H) (B7 P a H)))
def B10:Y k0:=fun H=>
  P (I 1) H
def B11:Y k3:=fun c a H=>
  li H a 0 (fun d=>ld1 H a 1 (fun e=>A 72 [(agg ⟨[(I d),e]⟩)] H (fun f b=>asB f (fun g=>pif (!g) (B10 P b) (B9 P c a b)))))
abbrev k4:Sk:=[(0,.g [.i,.v]),(1,.v)]
def B12:Y k4:=fun a b c H=>
  newK H [(I a),b] 26 (fun d e=>B11 P c d e)
theorem main:Z Tryz.f98 26 k4 (B12 P) P:=
  s (B11 P) (zBW (zBW (b (cnd 8 (En 26 k0 (B10 P)) (En 26 k3 (B9 P)))) (zBN rfl (e ()) zBS)) (zBW (zBW (b (cnd 13 (En 26 k0 (B8 P)) (En 26 k2 (B7 P)))) (zBN rfl (e ()) zBS)) (zBW (s (L2 P) (zBC (l (B6 P) (fun N2=>(zBW (zBW (b (cnd 17 (En 26 k1 (B5 P N2)) (En 26 k0 (B1 P)))) (zBN rfl zBS (zBT (fun _ _ h=>h)))) (zBW (zBC (zBW (b (cnd 25 (En 26 k0 (B4 P N2)) (En 26 k1 (B3 P N2)))) (zBN rfl (e ()) zBS))) (a N2))))))) (e ()))))
theorem ac (a:Int) (b c:Value) (H:AHeap) (h:B12 P a b c H):A 98 [(agg ⟨[(I a),b]⟩),c] H P:=
  fn Tryz.func98 (main P) h
end F98
namespace F99
variable (P:PT)
abbrev k0:Sk:=[(6,.v)]
def B1:Y k0:=fun a H=>
  P a H
abbrev k1:Sk:=[(1,.v),(2,.x),(5,.v),(6,.v),(7,J)]
def B3 (P:PT) (a:Y k1):Y k1:=fun b c d e f H=>
  a b c d e (i64.wrap (f+1)) H
abbrev k2:Sk:=[(1,.v),(2,.x),(5,.v),(6,.v),(7,J),(8,.v)]
def B4 (b:Y k1):Y k2:=fun c d e f g a H=>
  pif (Value.oneCell' a) (newK H [a] 27 (fun h i=>apK T0 27 i f (slice (some ⟨h,0,none⟩) 1 (1+1)) (fun j k=>B3 P b c d e j g k))) False
abbrev k3:Sk:=[(1,.v),(2,.x),(5,.v),(6,.v),(7,J),(8,.v),(9,J)]
def B6 (P:PT) (i:Y k1) (a:Y k3):Y k3:=fun b c d e f g h H=>
  a b c d e f g (i64.wrap (h+1)) H
abbrev k4:Sk:=[(1,.v),(2,.x),(5,.v),(6,.v),(7,J),(8,.v),(9,J),(11,J),(12,J)]
def B7 (k:Y k1) (d:Y k3):Y k4:=fun e a f g h i j b c H=>
  ld1 H a 1 (fun l=>idxK l c 2 (fun m n=>li H m n (fun o=>pif ((o:Int) != b) (B6 P k d e a f g h i j H) (d e a f g h i j H))))
abbrev k5:Sk:=[(1,.v),(2,.x),(5,.v),(6,.v),(7,J),(8,.v),(11,J),(12,J)]
def B8 (c:Y k1) (d:Y k3):Y k5:=fun e f g h i j b a H=>
  B7 P c d e f g h i j (i64.wrap (2*a)) b a H
abbrev k6:Sk:=[(1,.v),(2,.x),(5,.v),(6,.v),(7,J),(8,.v),(10,J),(11,J)]
def B9 (e:Y k1) (f:Y k3):Y k6:=fun d b g h i j c a H=>
  li H b 0 (fun k=>ld1 H b 1 (fun l=>A 154 [(agg ⟨[(I k),l]⟩),d,(I c),(I a)] H (fun m n=>asI .i64 m (fun o=>B8 P e f d b g h i j a o n))))
abbrev k7:Sk:=[(1,.v),(2,.x),(5,.v),(6,.v),(7,J),(8,.v),(9,J),(10,J)]
def B10 (d:Y k1) (e:Y k3):Y k7:=fun f b g h i j c a H=>
  ld1 H b 1 (fun k=>idxK k a 2 (fun l m=>bndK (i64.wrap (1-(Int.tmod c 2))) 2 (li H l (m+Int.toNat (i64.wrap (1-(Int.tmod c 2)))*1) (fun n=>B9 P d e f b g h i j a n H))))
def B11 (b:Y k1) (c:Y k3):Y k7:=fun d e f g h i j a H=>
  newK H [(I a)] 2 (fun k l=>apK T0 2 l i (slice (some ⟨k,0,none⟩) 1 (1+1)) (fun m n=>B10 P b c d e f g h m j a n))
def B12 (b:Y k1) (c:Y k3):Y k3:=fun d e f g h i a H=>
  B11 P b c d e f g h i a (i64.wrap (Int.tdiv a 2)) H
def B13 (c:Y k1) (d:Y k3):Y k3:=fun e f a g h i b H=>
  idxK a b 1 (fun j k=>stK H j k [(bool true)] (fun l=>B12 P c d e f a g h i b l))
def B14 (b:Y k1) (i:Y k3):Y k3:=fun c d a e f g h H=>
  idxK a h 1 (fun j k=>ld1 H j k (fun l=>asB l (fun m=>pif (!m) (B13 P b i c d a e f g h H) (B4 P b c d a e f g H))))
def L5 (p:Y k1):Y k3:=fun q r s t u v w H=>
  ∃ (I:Y k3) (μ:NTy k3 (AHeap→Nat)),I q r s t u v w H∧∀ a b c d e f g G,I a b c d e f g G→B14 P p (fun h i j k l m n o=>I h i j k l m n o∧μ h i j k l m n o<μ a b c d e f g G) a b c d e f g G
def B15 (b:Y k1):Y k2:=fun c d e f a g H=>
  L5 P b c d e f a g a H
def B16 (a:Y k1):Y k1:=fun b c d e f H=>
  newK H [] 2 (fun g h=>B15 P a b c d e f (slice (some ⟨g,0,none⟩) 0 (0+1)) h)
def B17 (c:Y k1):Y k1:=fun d e a f b H=>
  idxK a b 1 (fun g h=>ld1 H g h (fun i=>asB i (fun j=>pif j (B3 P c d e a f b H) (B16 P c d e a f b H))))
def B18 (d:Y k1):Y k1:=fun e f a b c H=>
  lenK a (fun g=>pif (decide ((c:Int)<(g:Int))) (B17 P d e f a b c H) (B1 P b H))
def L2:Y k1:=fun l m n o p H=>
  ∃ (I:Y k1) (μ:NTy k1 (AHeap→Nat)),I l m n o p H∧∀ a b c d e G,I a b c d e G→B18 P (fun f g h i j k=>I f g h i j k∧μ f g h i j k<μ a b c d e G) a b c d e G
abbrev k8:Sk:=[(1,.v),(2,.x),(5,.v),(6,.v)]
def B19:Y k8:=fun a b c d H=>
  L2 P a b c d 0 H
abbrev k9:Sk:=[(1,.v),(2,.x)]
def B20:Y k9:=fun c a H=>
  ld1 H a 1 (fun d=>lenK d (fun b=>mkR H 1 4 [(bool false)] (i64.wrap (2*(b:Int))) (i64.wrap (2*(b:Int))) (fun e f=>newK f [] 27 (fun g h=>B19 P c a e (slice (some ⟨g,0,none⟩) 0 (0+1)) h))))
abbrev k10:Sk:=[(0,.g [.i,.v]),(1,.v)]
def B21:Y k10:=fun a b c H=>
  newK H [(I a),b] 26 (fun d e=>B20 P c d e)
theorem main:Z Tryz.f99 76 k10 (B21 P) P:=
  s (B20 P) (s (B19 P) (zBW (s (L2 P) (zBC (l (B18 P) (fun N2=>(zBW (zBW (b (cnd 22 (En 76 k1 (B17 P N2)) (En 76 k0 (B1 P)))) (zBN rfl zBS (zBT (fun _ _ h=>h)))) (zBW (zBC (zBW (zBW (b (cnd 28 (En 76 k1 (B3 P N2)) (En 76 k1 (B16 P N2)))) (zBN rfl (zBT (fun _ _ h=>h)) zBS)) (s (B15 P N2) (zBW (s (L5 P N2) (zBC (l (B14 P N2) (fun N5=>(zBW (zBW (b (cnd 35 (En 76 k3 (B13 P N2 N5)) (En 76 k2 (B4 P N2)))) (zBN rfl zBS (zBT (fun _ _ h=>h)))) (zBC (s (B12 P N2 N5) (s (B11 P N2 N5) (s (B10 P N2 N5) (s (B9 P N2 N5) (s (B8 P N2 N5) (s (B7 P N2 N5) (zBW (b (cnd 68 (En 76 k3 (B6 P N2 N5)) (En 76 k3 N5))) (zBN rfl (a N5) zBS)))))))))))))) (a (B3 P N2)))))) (a N2))))))) (e ())))
theorem ac (a:Int) (b c:Value) (H:AHeap) (h:B21 P a b c H):A 99 [(agg ⟨[(I a),b]⟩),c] H P:=
  fn Tryz.func99 (main P) h
end F99
namespace F100
variable (P:PT)
abbrev k0:Sk:=[(1,.x)]
def B1:Y k0:=fun a H=>
  li H a 0 (fun b=>ld1 H a 1 (fun c=>A 155 [(agg ⟨[(I b),c]⟩),(int .u64 0)] H (fun d e=>lenK d (fun f=>P (bool (((f:Int):Int)==1)) e))))
abbrev k1:Sk:=[(0,.g [.i,.v])]
def B2:Y k1:=fun a b H=>
  newK H [(I a),b] 26 (fun c d=>B1 P c d)
theorem main:Z Tryz.f100 7 k1 (B2 P) P:=
  s (B1 P) (e ())
theorem ac (a:Int) (b:Value) (H:AHeap) (h:B2 P a b H):A 100 [(agg ⟨[(I a),b]⟩)] H P:=
  fn Tryz.func100 (main P) h
end F100
end
end Go.Proofs
