/- Contracts and plain mathematics for a law, merged. -/
import Derived.Test.YtngacbdogjmpaaaGreatDoorX06Q3
set_option linter.unusedVariables false
set_option linter.unusedSimpArgs false
set_option maxRecDepth 100000
namespace Go.Proofs
open Go.Abs

variable {H G:AHeap} {v u f:Value} {l m c D S:List Int} {es fs:List (Int × Int)} {K:Value→AHeap→Prop} {cs:List (List Int)}

end Go.Proofs
namespace Go.Proofs
open Go.Abs

variable {H G Hb:AHeap} {v u f w:Value} {l m:List Int} {K:Value→AHeap→Prop} {bs:Nat}

end Go.Proofs
namespace Go.Proofs
open Go.Abs

variable {H G:AHeap} {v u f w:Value} {es fs S:List (Int × Int)} {l:List Int} {K:Value→AHeap→Prop}

end Go.Proofs
namespace Go.Proofs
open Go.Abs

variable {H G Hb:AHeap} {v u f w:Value} {l m:List Int} {es:List (Int × Int)} {K:Value→AHeap→Prop} {bs:Nat} {n:Int}

end Go.Proofs
namespace Go.Proofs
open Go.Abs

variable {H G Hb:AHeap} {v u f w:Value} {l m D:List Int} {es:List (Int × Int)} {K:Value→AHeap→Prop} {bs:Nat} {n:Int}

end Go.Proofs
namespace Go.Proofs
open Go.Abs

variable {H G Hb:AHeap} {v u f w:Value} {l m D:List Int} {es:List (Int × Int)} {K:Value→AHeap→Prop} {bs:Nat} {n:Int}

end Go.Proofs
namespace Go.Proofs
open Go.Abs

variable {H G Hb H0:AHeap} {v u f w:Value} {l m D:List Int} {es fs:List (Int × Int)} {K:Value→AHeap→Prop} {bs:Nat} {n:Int}

end Go.Proofs
namespace Go.Proofs
open Go.Abs

variable {H G G' Hb H0:AHeap} {v u f w:Value} {l m D:List Int} {es fs:List (Int × Int)} {K:Value→AHeap→Prop} {bs:Nat} {n:Int}

theorem Kb.own {b:Nat} {t:TypeId} {cs:List Value} (h:Kb bs H G) (o:Own H b t cs) (hb:b≠bs):Own G b t cs:=h.old b _ hb o
end Go.Proofs
namespace Go.Proofs
open Go.Abs

variable {H G G' Hb H0:AHeap} {v u f w:Value} {l m D:List Int} {es fs:List (Int × Int)} {K:Value→AHeap→Prop} {bs:Nat} {n:Int}

end Go.Proofs
namespace Go.Proofs
open Go.Abs

variable {H G G' Hb H0:AHeap} {v u f w:Value} {l m D:List Int} {es fs:List (Int × Int)} {K:Value→AHeap→Prop} {bs:Nat} {n:Int}

end Go.Proofs
namespace Go.Proofs
open Go.Abs

variable {H G G' Hb H0:AHeap} {v u f w:Value} {l m D:List Int} {es fs:List (Int × Int)} {K:Value→AHeap→Prop} {bs:Nat} {n:Int}

end Go.Proofs
namespace Go.Proofs
open Go.Abs

variable {H G G' Hb H0:AHeap} {v u f w:Value} {l m D:List Int} {es fs:List (Int × Int)} {K:Value→AHeap→Prop} {bs:Nat} {n:Int}

end Go.Proofs
namespace Go.Proofs
open Go.Abs

variable {H G G' Hb H0:AHeap} {v u f w:Value} {l m c D:List Int} {es fs:List (Int × Int)} {K:Value→AHeap→Prop} {bs:Nat} {n:Int}

end Go.Proofs
namespace Go.Proofs
open Go.Abs

variable {es:List (Int × Int)} {l c O:List Int} {L:List (List Int)} {n:Int}

end Go.Proofs
namespace Go.Proofs
open Go.Abs

variable {H G:AHeap} {v u f:Value} {l m c D:List Int} {es fs:List (Int × Int)} {K:Value→AHeap→Prop} {n:Int}

theorem big_ok (h:Byts H v l) (k:K (.bool (decide ((l.length:Int)>4096))) H):AC Tryz.prog T0 7 [v] H K:=by
 apply F7.ac
 unfold F7.B2 F7.B1
 exact h.len k
end Go.Proofs
namespace Go.Proofs
open Go.Abs

variable {H G G' Hb H0:AHeap} {v u f w:Value} {l m c D:List Int} {es fs:List (Int × Int)} {K:Value→AHeap→Prop} {bs:Nat} {n:Int} {L:List (List Int)}

def cwN (L:List (List Int)) (w:Nat):Nat:=(L.filter fun l=>decide (setN l&&&w=w)).length
theorem cwN_snoc (L:List (List Int)) (l:List Int) (w:Nat):cwN (L++[l]) w=cwN L w+if setN l&&&w=w then 1 else 0:=by
 unfold cwN
 rw [List.filter_append,List.length_append]
 congr 1
 by_cases h:setN l&&&w=w <;> simp [h]
theorem cwN_le (L:List (List Int)) (w:Nat):cwN L w≤L.length:=List.length_filter_le _ _
theorem cwN_zero (L:List (List Int)):cwN L 0=L.length:=by
 unfold cwN
 rw [List.filter_eq_self.2 fun l _=>by simp]
theorem countWith_ok {w:Nat} (hT:Tab H) (h:Edges H v es) (hg:IsG n es) (hw:w<2^64) (k:∀ G,H.le G→K (.int .i64 (cwN (mats n es) w:Nat)) G) :
 AC Tryz.prog T0 75 [.agg ⟨[.int .i64 n,v]⟩,.int .u64 (w:Nat)] H K:=by
 have hrow:=mats_row hg
 have h30:es.length≤30:=by have:=hg.ed.len;have:=hg.ed.hi;omega
 have hsn:∀ l∈mats n es,setN l<2^64:=fun l hl=>setN_lt fun x hx=>by have:=(hrow l hl).1.range x hx;omega
 have hml:=mats_length hg
 apply F75.ac
 unfold F75.B4
 refine newK_f (all_iv (edges_one' h)) fun H1 l1 _ o1=>newK_f rfl fun H2 l2 n2 o2=>?_
 unfold F75.B3
 refine newK_f rfl fun H3 l3 n3 o3=>?_
 have l13:=AHeap.le_trans l2 l3
 have l03:=AHeap.le_trans l1 l13
 have hlt1:=lt_of_get o1
 have hlt2:=lt_of_get o2
 have hlt3:=lt_of_get o3
 obtain ⟨a,ha⟩:∃ a,a=H1.length:=⟨_,rfl⟩
 obtain ⟨b,hb⟩:∃ b,b=H2.length:=⟨_,rfl⟩
 have o2':=o2.le l3
 rw [← ha] at o2' ⊢;rw [← hb] at o3 ⊢
 have hl1:=l1.1
 unfold F75.B2
 refine ldI_own (o1.le l13) rfl (ld1_own (o1.le l13) rfl (matchings_ok hg (H0:=H) (Pv0:=fun x=>x=b) (q:=fun _=>false)
  (J:=fun done Pv G=>(∀ x,Pv x↔x=b)∧b<G.length∧Own G b 2 [.int .i64 (cwN done w:Nat)]∧Own G a 83 [.int .u64 (w:Nat)])
  h l03 (fun x hx=>by omega) hT rfl ⟨fun x=>Iff.rfl,by omega,o3,o2'⟩ ?_ ?_ ?_ ?_))
 ·rintro done Pv G G2 ⟨h1,h2,h3,h4⟩ hle
  exact ⟨h1,by have:=hle.1;omega,h3.le hle,h4.le hle⟩
 ·rintro done Pv G x ⟨h1,h2,h3,h4⟩ hx
  have:=(h1 x).1 hx;omega
 ·rintro done Pv l G ⟨h1,h2,h3,h4⟩ hF hlm hd K hK
  have hsl:=hsn l hlm
  have hle:=cwN_le done w
  refine callV_mk ?_
  apply F140.ac
  unfold F140.B4 F140.B3
  refine asP_mk (ldI_own h4 rfl (asP_mk (ldI_own h4 rfl ?_)))
  rw [bits_and hsl hw]
  refine pif_cases (fun hc=>?_) fun hc=>?_
  ·have hc:setN l&&&w=w:=by have:=beq_iff_eq.1 hc;omega
   unfold F140.B2
   refine asP_mk (ldI_own h3 rfl (asP_mk (stK_1 h3 (by simp) rfl fun G2 b2 o2=>?_)))
   rw [wrap_id (by omega) (by omega)] at o2
   unfold F140.B1
   refine hK G2 Pv ⟨h1,by rw [b2.len];exact h2,?_,b2.own h4 (by omega)⟩ ⟨by rw [b2.len];exact Nat.le_refl _,fun x hx=>.inl hx,fun x o hx ho=>?_⟩
   ·rw [cwN_snoc,if_pos hc]
    simpa using o2
   ·rw [b2.same x (fun e=>hx ((h1 x).2 e))];exact ho
  ·have hc:¬ setN l&&&w=w:=fun e=>by have:=beq_eq_false_iff_ne.1 hc;exact this (by rw [e])
   unfold F140.B1
   refine hK G Pv ⟨h1,h2,?_,h4⟩ ⟨Nat.le_refl _,fun x hx=>.inl hx,fun x o hx ho=>ho⟩
   rw [cwN_snoc,if_neg hc];exact h3
 ·rintro G Pv ⟨h1,h2,h3,h4⟩ hF
  rw [upToD_all anyD_none] at h3
  refine asB_mk ?_
  unfold F75.B1
  exact ldI_own h3 rfl (k G (hF.base l03 (fun x hx=>by omega)).1)
noncomputable def cmVal (n:Int) (es:List (Int × Int)):Int:=if IsG n es then ((mats n es).length:Nat) else 0
theorem implCountM_ok (hT:Tab H) (h:Edges H v es) (hl:es.length≤1048576) (k:∀ G,H.le G→K (.tuple ⟨[.int .i64 (cmVal n es),.int .i64 (grCode n es)]⟩) G) :
 AC Tryz.prog T0 18 [.agg ⟨[.int .i64 n,v]⟩] H K:=by
 apply F18.ac
 unfold F18.B5
 refine newK_f (all_iv (edges_one' h)) fun H1 l1 n1' o1=>?_
 unfold F18.B4
 refine ldI_own o1 rfl (ld1_own o1 rfl (graphCode_ok (b:=true) (h.le l1) hl fun H2 l2=>asI_mk ?_))
 have l12:=AHeap.le_trans l1 l2
 have o2:=o1.le l2
 have e:(if IsG n es then (if true=true then 0 else 2) else 1:Int)=grCode n es:=by unfold grCode;simp
 rw [e]
 unfold F18.B3
 by_cases hg:IsG n es
 ·have e0:grCode n es=0:=by unfold grCode;rw [if_pos hg]
  have e1:cmVal n es=((mats n es).length:Nat):=by unfold cmVal;rw [if_pos hg]
  rw [e0,e1] at k
  rw [e0]
  refine pif_f rfl ?_
  unfold F18.B1
  refine ldI_own o2 rfl (ld1_own o2 rfl (countWith_ok (w:=0) (hT.le l12) (h.le l12) hg (by decide) fun G lG=>asI_mk ?_))
  rw [cwN_zero]
  exact k G (AHeap.le_trans l12 lG)
 ·have e0:grCode n es=1:=by unfold grCode;rw [if_neg hg]
  have e1:cmVal n es=0:=by unfold cmVal;rw [if_neg hg]
  rw [e0,e1] at k
  rw [e0]
  refine pif_t rfl ?_
  unfold F18.B2
  exact k H2 l12
-- draws
end Go.Proofs
namespace Go.Proofs
open Go.Abs

variable {H G G' Hb:AHeap} {v u w:Value} {es fs:List (Int × Int)} {l:List Int} {K:Value→AHeap→Prop} {n:Int} {bs gb k:Nat}

abbrev QC06:Value→AHeap→Prop:=fun v _=>v=.bool true
structure TopS (Hb:AHeap) (bs gb k:Nat) (es:List (Int × Int)) (vb:Nat) (G:AHeap):Prop where
 D:Dic Hb bs G
 pg:Hb.length≤gb∧gb≠bs
 pv:vb≠bs∧vb≠gb
 og:Own G gb 31 [.int .i64 ((2*k+2:Nat):Int),.slice (some ⟨vb,0,none⟩) es.length (es.length+1)]
 oe:Own G vb 28 (LE es)
 hg:IsG ((2*k+2:Nat):Int) es
 gr:Grown k es
 k4:k≤4
theorem TopS.E {vb:Nat} (h:TopS Hb bs gb k es vb G):Edges G (.slice (some ⟨vb,0,none⟩) es.length (es.length+1)) es:=Fresh.edges (m:=0) (.inr ⟨vb,es.length,Nat.zero_le _,rfl,h.oe,by rw [LE_length]⟩)
theorem TopS.le {vb:Nat} (h:TopS Hb bs gb k es vb G) (hl:G.le G'):TopS Hb bs gb k es vb G':=⟨h.D.le hl,h.pg,h.pv,h.og.le hl,h.oe.le hl,h.hg,h.gr,h.k4⟩
theorem TopS.kb {vb:Nat} (h:TopS Hb bs gb k es vb G) (hk:Kb bs G G') (hD:Dic Hb bs G'):TopS Hb bs gb k es vb G':=⟨hD,h.pg,h.pv,hk.own h.og h.pg.2,hk.own h.oe h.pv.1,h.hg,h.gr,h.k4⟩
theorem TopS.len {vb:Nat} (h:TopS Hb bs gb k es vb G):es.length=3*k+3:=by
 have:=h.hg.ed.len;omega
theorem top_fin {vb:Nat} (hT:Tab Hb) (h:TopS Hb bs gb k es vb G):F3.B11 QC06 gb G:=by
 have hg:=h.hg
 have hm:=h.gr.three h.k4 hg
 have h0:bmCode ((2*k+2:Nat):Int) es=0:=by
  unfold bmCode
  rw [if_pos hg,if_neg]
  intro e;rw [e] at hm;simp at hm
 have hs:smCode ((2*k+2:Nat):Int) es 12=0:=by
  unfold smCode
  rw [if_pos hg,if_neg]
  have:=h.k4;omega
 have hc:=ccn_has hg
 have hl:=h.len
 have k4:=h.k4
 unfold F3.B11
 refine ldI_own h.og rfl (ld1_own h.og rfl (implCountCol_ok h.E (by omega) fun G1 l1=>tup2_mk (asI_mk (asI_mk ?_))))
 have h:=h.le l1
 unfold F3.B10
 refine ldI_own h.og rfl (ld1_own h.og rfl (specCountCol_ok h.E (by omega) fun G2 l2=>tup2_mk (asI_mk (asI_mk ?_))))
 have h:=h.le l2
 unfold F3.B9
 refine ldI_own h.og rfl (ld1_own h.og rfl (implOdd_ok (hT.le h.D.1) h.E (by omega) fun G3 l3=>tup2_mk (asI_mk (asI_mk ?_))))
 have h:=h.le l3
 unfold F3.B8
 refine ldI_own h.og rfl (ld1_own h.og rfl (implRes_ok h.E (by omega) fun G4 l4=>tup2_mk (asI_mk (asI_mk ?_))))
 have h:=h.le l4
 rw [if_pos hg,h0,hs]
 unfold F3.B7
 refine pif_f (by simp) (pif_f (by simp) (pif_f rfl (pif_f rfl (pif_f rfl ?_))))
 unfold F3.B5
 refine pif_f (by rw [hc,od_has h0,beq_self_eq_true];rfl) (pif_f (by rw [hc,rs_has hs,beq_self_eq_true];rfl) ?_)
 unfold F3.B3
 refine ldI_own h.og rfl (ld1_own h.og rfl (implCountM_ok (hT.le h.D.1) h.E (by omega) fun G5 l5=>tup2_mk (asI_mk (asI_mk ?_))))
 have h:=h.le l5
 unfold F3.B2
 refine ldI_own h.og rfl (ld1_own h.og rfl (implHas_ok h.E (by omega) fun G6 l6=>tup2_mk (asB_mk (asI_mk ?_))))
 have e1:grCode ((2*k+2:Nat):Int) es=0:=by unfold grCode;rw [if_pos hg]
 have e2:cmVal ((2*k+2:Nat):Int) es=((mats ((2*k+2:Nat):Int) es).length:Nat):=by unfold cmVal;rw [if_pos hg]
 rw [e1,e2,if_pos hg]
 unfold F3.B1
 refine pif_t rfl (pif_t (decide_eq_true (by omega)) (pif_t rfl ?_))
 rw [hc]
 show Value.bool (hasVal _ es==hasVal _ es)=.bool true
 rw [beq_self_eq_true]
theorem top_18 {vb:Nat} {e f:Int} {j:Nat} {N12:Value→Nat→Int→AHeap→Prop} (hT:Tab Hb) (h:TopS Hb bs gb k es vb G) (hk:k<4) (he:0≤e∧e<es.length) (hf:0≤f∧f<es.length) (hef:e≠f) (hj:1≤j) (hj4:j≤4)
 (hN:∀ es' vb' G',TopS Hb bs gb (k+1) es' vb' G'→N12 (.pointer (some ⟨bs,0,none⟩)) gb ((j:Int)-1) G'):F3.B18 QC06 N12 (.pointer (some ⟨bs,0,none⟩)) gb (j:Int) e f G:=by
 have hg:=h.hg
 have hl:=h.len
 have h0:bgCode ((2*k+2:Nat):Int) es e f=0:=by
  unfold bgCode
  rw [if_pos hg,if_pos ⟨⟨he.1,by omega⟩,⟨hf.1,by omega⟩⟩,if_neg hef,if_neg (by omega)]
 have e1:bgSize ((2*k+2:Nat):Int) es e f=((2*(k+1)+2:Nat):Int):=by unfold bgSize;rw [if_pos h0];omega
 have e2:bgList ((2*k+2:Nat):Int) es e f=brG ((2*k+2:Nat):Int) es e.toNat f.toNat:=by unfold bgList;rw [if_pos h0]
 have hg':=bg_isG h0
 have hgr:=h.gr.step hk hg (e:=e.toNat) (f:=f.toNat) (by omega) (by omega) (by omega)
 rw [e1] at hg'
 rw [← e2] at hgr
 obtain ⟨ds,hds⟩:∃ ds,ds=bgList ((2*k+2:Nat):Int) es e f:=⟨_,rfl⟩
 rw [← hds] at hg' hgr
 have hdl:ds.length=3*(k+1)+3:=by have:=hg'.ed.len;omega
 have hgbl:=h.og.lt
 have hbsl:bs<G.length:=by obtain ⟨_,_,_,_,_,_,_,_,o,_⟩:=h.D;exact o.lt
 unfold F3.B18
 refine ldI_own h.og rfl (ld1_own h.og rfl (implBridge_ok h.E (by omega) fun w1 H2 l2 f2=>tup2_mk (agg2_mk (asI_mk (asI_mk (newK_f rfl fun H3 l3 n3 o3=>stK_f (new:=[.int .i64 (bgSize ((2*k+2:Nat):Int) es e f),w1]) o3 (by simp) (mem_iv (fresh_one f2)) rfl fun H4 b4 o4=>?_))))))
 have l34:H2.le H4:=b4.le l3 (Nat.le_refl _)
 have h4:=h.le (AHeap.le_trans l2 l34)
 rw [← hds] at f2
 obtain ⟨vb',hv1,hv2,ov⟩:=fresh_neE f2 (by omega)
 have hE2:=f2.edges.le l34
 have ov:=ov.le l34
 have hl2:=l2.1
 unfold F3.B17
 refine ldI_own h4.og rfl (ld1_own h4.og rfl (specBridge_ok h4.E (by omega) fun w2 H5 l5 f5=>tup2_mk (agg2_mk (asI_mk (asI_mk (newK_f rfl fun H6 l6 n6 o6=>stK_f (new:=[.int .i64 (bgSize ((2*k+2:Nat):Int) es e f),w2]) o6 (by simp) (mem_iv (fresh_one f5)) rfl fun H7 b7 o7=>?_))))))
 have l67:H5.le H7:=b7.le l6 (Nat.le_refl _)
 have l57:=AHeap.le_trans l5 l67
 have h7:=h4.le l57
 have o4:=o4.le l57
 have ov:=ov.le l57
 have hE2:=hE2.le l57
 rw [← hds] at f5
 have hE5:=f5.edges.le l67
 unfold F3.B16
 refine pif_f (by simp) (ldI_own o4 rfl (ld1_own o4 rfl (ldI_own o7 rfl (ld1_own o7 rfl (graph9_ok rfl hE2 hE5 (by omega) fun H8 l8=>asB_mk (pif_f rfl (pif_f (by rw [h0];rfl) (ldI_own (o4.le l8) rfl (ld1_own (o4.le l8) rfl (IsGraph_ok (hE2.le l8) (by omega) fun H9 l9=>asB_mk (pif_f ?_ ?_)))))))))))
 ·rw [e1,decide_eq_true hg'];rfl
 have l89:=AHeap.le_trans l8 l9
 have o4:=o4.le l89
 have ov:=ov.le l89
 have h9:=h7.le l89
 unfold F3.B14
 refine ldI_own o4 rfl (ld1_own o4 rfl (stK_f (new:=[.int .i64 (bgSize ((2*k+2:Nat):Int) es e f),w1]) h9.og (by simp) (mem_iv (fresh_one f2)) rfl fun H10 b10 o10=>?_))
 unfold F3.B13
 rw [wrap_id (by omega) (by omega)]
 refine hN ds vb' H10 ⟨h9.D.but b10 h.pg.2.symm h.pg.1,h.pg,⟨by omega,by omega⟩,?_,b10.own ov (by omega),hg',hgr,by omega⟩
 rw [e1,hv2] at o10
 exact o10
theorem fnTop_law (H:AHeap) (hT:Tab H) (vs:List Value) (hv:AVs T0 H [22] vs):AC Tryz.prog T0 3 vs H (fun v _=>v=.bool true):=by
 obtain ⟨v0,vs,rfl,a0,rfl⟩:=hv
 obtain ⟨l,hB,hlen⟩:=av_bytes a0
 apply F3.ac
 unfold F3.B29 F3.B28
 refine big_ok hB (asB_mk (pif_cases (fun _=>by unfold F3.B27;rfl) fun hs=>?_))
 have hl:l.length≤4096:=by have:=of_decide_eq_false hs;omega
 unfold F3.B26
 refine roll_ok hB hl fun G1 hD=>?_
 obtain ⟨bs,hbs⟩:∃ bs,bs=H.length:=⟨_,rfl⟩
 rw [← hbs] at hD ⊢
 have hbsl:bs<G1.length:=by obtain ⟨_,_,_,_,_,_,_,_,o,_⟩:=hD;exact o.lt
 unfold F3.B25
 refine newK_f rfl fun G2 l2 n2 o2=>newK_f rfl fun G3 l3 n3 o3=>stK_f (new:=[.int .i64 2,.slice (some ⟨G1.length,0,none⟩) 3 (3+1)]) o3 (by simp) (by simp [Value.oneCell']) rfl fun G4 b4 o4=>?_
 have l24:G2.le G4:=b4.le l3 (Nat.le_refl _)
 have l14:=AHeap.le_trans l2 l24
 obtain ⟨gb,hgb⟩:∃ gb,gb=G2.length:=⟨_,rfl⟩
 rw [← hgb] at o4 ⊢
 have hH1:=hD.1.1
 have q1:gb=G1.length+1:=by rw [hgb,n2]
 have hS:TopS H bs gb 0 [(0,1),(0,1),(0,1)] G1.length G4:=⟨hD.le l14,⟨by omega,by omega⟩,⟨by omega,by omega⟩,o4,o2.le l24,base_isG,rfl,by omega⟩
 unfold F3.B24
 refine below_ok (hD.le l14) (by omega) fun r G5 kb hD5 r0 r5=>asI_mk ?_
 have hS5:=hS.kb kb hD5
 obtain ⟨j,rfl⟩:∃ j:Nat,r=j:=⟨r.toNat,by omega⟩
 unfold F3.L12
 refine ⟨fun x3 x4 x5 G=>.pointer (some ⟨bs,0,none⟩)=x3∧gb=x4∧∃ (k j:Nat) (es:List (Int × Int)) (vb:Nat),x5=j∧k+j≤4∧TopS H bs gb k es vb G,fun _ _ x5 _=>x5.toNat,⟨rfl,rfl,0,j,_,_,rfl,by omega,hS5⟩,?_⟩
 rintro x3 x4 x5 G ⟨rfl,rfl,k,j,es,vb,rfl,hkj,h⟩
 unfold F3.B23
 refine pif_cases (fun hb=>?_) fun _=>top_fin hT h
 have hj:1≤j:=by have:=of_decide_eq_true hb;omega
 have hlen:=h.len
 unfold F3.B22
 refine ld1_own h.og rfl (h.E.len (below_ok h.D (by omega) fun e G6 kb6 hD6 e0 e1=>asI_mk ?_))
 have h:=h.kb kb6 hD6
 unfold F3.B21
 refine ld1_own h.og rfl (h.E.len (below_ok h.D (by omega) fun f G7 kb7 hD7 f0 f1=>asI_mk ?_))
 have h:=h.kb kb7 hD7
 have step:∀ f:Int,0≤f→f<es.length→e≠f→F3.B18 QC06 (fun x3 x4 x5 G=>(.pointer (some ⟨bs,0,none⟩)=x3∧gb=x4∧∃ (k j:Nat) (es:List (Int × Int)) (vb:Nat),x5=j∧k+j≤4∧TopS H bs gb k es vb G)∧x5.toNat<(j:Int).toNat) (.pointer (some ⟨bs,0,none⟩)) gb (j:Int) e f G7:=fun f f0 f1 hef=>
  top_18 hT h (by omega) ⟨e0,e1⟩ ⟨f0,f1⟩ hef hj (by omega) fun es' vb' G' h'=>⟨⟨rfl,rfl,k+1,j-1,es',vb',by omega,by omega,h'⟩,by omega⟩
 unfold F3.B20
 refine pif_cases (fun hc=>?_) fun hc=>step f f0 f1 (beq_eq_false_iff_ne.1 hc)
 have hc:e=f:=beq_iff_eq.1 hc
 unfold F3.B19
 have hz:(es.length:Int)≠0:=by omega
 refine ld1_own h.og rfl (h.E.len (pif_t (by simpa using hz) ?_))
 rw [wrap_id (by omega) (by omega)]
 have ht:Int.tmod (e+1) (es.length:Int)=if e+1=es.length then 0 else e+1:=by
  rw [Int.tmod_eq_emod_of_nonneg (by omega)]
  split
  ·rename_i h1;rw [h1];exact Int.emod_self
  ·exact Int.emod_eq_of_lt (by omega) (by omega)
 rw [ht]
 refine step _ ?_ ?_ ?_ <;> split <;> omega
end Go.Proofs
