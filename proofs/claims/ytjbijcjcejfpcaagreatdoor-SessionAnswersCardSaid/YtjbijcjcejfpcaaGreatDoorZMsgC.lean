/- Messages in memory: their cells. -/
import Derived.Test.YtjbijcjcejfpcaaGreatDoorZMsgP
namespace Go.Proofs.YtjbijcjcejfpcaaGreatDoor
set_option linter.unusedVariables false
set_option maxRecDepth 100000
set_option maxHeartbeats 16000000
open Go Go.RowKit
def HdrE (w:World) (h:Hdr) (cs:List Value):Prop:=cs=h.cells∧h.ok
theorem Xfz (B:Nat):KeepsO B [] HdrE:=fun _ _ _ _ _ h _ _=>h
theorem Z3z:Keeps HashE:=fun _ _ _ _ h _=>h
theorem hdrE_c:Keeps HdrE:=fun _ _ _ _ h _=>h
def Q8z (k:Value) (nu no:Value) (pv st:Bs) (hv dv bv:Value) (bc:List Value):List Value:=[k,nu,no]++(Q5z pv++(Q5z st++([hv,dv,bv]++bc)))
theorem msgCells_len (k nu no:Value) {pv st:Bs} (hv dv bv:Value) {bc:List Value} (h1:pv.length=32) (h2:st.length=32) (h3:bc.length=69):(Q8z k nu no pv st hv dv bv bc).length=139:=by
 simp[Q8z,Q5z,h1,h2,h3]
def MsgC (w:World) (m:TMsg) (cs:List Value):Prop:=∃hv dv bv bc,cs=Q8z (.int .i64 m.k) (u32 m.nu) (u64 m.no) m.pv m.st hv dv bv bc∧m.pv.length=32∧m.st.length=32∧ESl HashE 32 w hv m.hs∧ESl HdrE 68 w dv m.hd∧Sl w bv m.tx∧BlkC w m.bl bc
def MsgO (B:Nat) (w:World) (m:TMsg) (cs:List Value):Prop:=∃hv dv bv bc,cs=Q8z (.int .i64 m.k) (u32 m.nu) (u64 m.no) m.pv m.st hv dv bv bc∧m.pv.length=32∧m.st.length=32∧RowO HashE 32 32 B w hv m.hs∧RowO HdrE 36 68 B w dv m.hd∧Own8 w B bv m.tx∧BlkO B w m.bl bc
theorem Qhz:Keeps MsgC:=fun w w' m cs ⟨hv,dv,bv,bc,h1,h2,h3,h4,h5,h6,h7⟩ hb=>⟨hv,dv,bv,bc,h1,h2,h3,h4.fut Z3z hb,h5.fut hdrE_c hb,h6.below hb (Nat.le_refl _),blkC_keeps _ _ _ _ h7 hb⟩
theorem msgO_keeps (B:Nat):KeepsO B [32,36,171,5,26,209,204] (MsgO B):=fun w w' S m cs ⟨hv,dv,bv,bc,h1,h2,h3,h4,h5,h6,h7⟩ hs hp=>
 ⟨hv,dv,bv,bc,h1,h2,h3,h4.sep (Qrz B) hs (hp.mono (by simp)),h5.sep (Xfz B) hs (hp.mono (by simp)),h6.sep hs (hp.mono (by simp)),XTz B _ _ _ _ _ h7 hs (hp.mono (by simp))⟩
theorem MsgO.c {B:Nat} {w:World} {m:TMsg} {cs:List Value} (h:MsgO B w m cs):MsgC w m cs:=by
 obtain⟨hv,dv,bv,bc,h1,h2,h3,h4,h5,h6,h7⟩:=h
 exact⟨hv,dv,bv,bc,h1,h2,h3,h4.e fun _ _ h=>h,h5.e fun _ _ h=>h,h6.sl,h7.c⟩
theorem MsgC.len {w:World} {m:TMsg} {cs:List Value} (h:MsgC w m cs):cs.length=139:=by
 obtain⟨hv,dv,bv,bc,rfl,h2,h3,_,_,_,h7⟩:=h
 exact msgCells_len _ _ _ _ _ _ h2 h3 h7.len
theorem Qkz {cs:List Value} (h:cs.length=139):(Tryz.prog.info? 41).map (·.size)=some cs.length:=by rw[h];kernel_rfl
theorem MsgC.one {w:World} {m:TMsg} {cs:List Value} (h:MsgC w m cs):cs.toArray.all (·.oneCell')=true:=by
 obtain⟨hv,dv,bv,bc,rfl,h2,h3,h4,h5,h6,h7⟩:=h
 have e1:=Qzz m.pv
 have e2:=Qzz m.st
 have e3:=h7.one
 obtain⟨p,n,c,rfl,_⟩:=h6
 rw[List.all_toArray]at e1 e2 e3 ⊢
 unfold Q8z
 rw[List.all_append,List.all_append,List.all_append,List.all_append,e1,e2,e3]
 simp only[List.all_cons,List.all_nil,Bool.and_true,Bool.true_and,h4.one,h5.one,Bool.and_eq_true]
 exact⟨⟨rfl,rfl,rfl⟩,rfl⟩
theorem MsgC.okMsg {w:World} {m:TMsg} {cs:List Value} (h:MsgC w m cs):okMsg m:=by
 obtain⟨hv,dv,bv,bc,rfl,h2,h3,h4,h5,h6,h7⟩:=h
 exact⟨h2,h3,fun x hx=>by obtain⟨cs,hc⟩:=h4.mem hx;exact hc.2,fun x hx=>by obtain⟨cs,hc⟩:=h5.mem hx;exact hc.2,h7.hok,h7.ok⟩
theorem msg_drop3 {k nu no:Value} {pv st:Bs} {hv dv bv:Value} {bc:List Value} (i:Nat):(Q8z k nu no pv st hv dv bv bc)[3+i]? =(Q5z pv++(Q5z st++([hv,dv,bv]++bc)))[i]? :=by
 unfold Q8z
 rw[List.getElem?_append_right (by simp)]
 congr 1
 simp
theorem msg_pv {k nu no:Value} {pv st:Bs} {hv dv bv:Value} {bc:List Value} (i:Nat) (v:Value) (h:(Q5z pv)[i]? =some v):(Q8z k nu no pv st hv dv bv bc)[3+i]? =some v:=by
 rw[msg_drop3,List.getElem?_append_left (List.getElem?_eq_some_iff.1 h).1]
 exact h
theorem msg_drop35 {k nu no:Value} {pv st:Bs} {hv dv bv:Value} {bc:List Value} (hp:pv.length=32) (i:Nat):(Q8z k nu no pv st hv dv bv bc)[35+i]? =(Q5z st++([hv,dv,bv]++bc))[i]? :=by
 have hl:(Q5z pv).length=32:=by simp[Q5z,hp]
 rw[show 35+i=3+(32+i) by omega,msg_drop3,List.getElem?_append_right (by omega),hl,Nat.add_sub_cancel_left]
theorem msg_st {k nu no:Value} {pv st:Bs} {hv dv bv:Value} {bc:List Value} (hp:pv.length=32) (i:Nat) (v:Value) (h:(Q5z st)[i]? =some v):(Q8z k nu no pv st hv dv bv bc)[35+i]? =some v:=by
 rw[msg_drop35 hp,List.getElem?_append_left (List.getElem?_eq_some_iff.1 h).1]
 exact h
theorem msg_drop67 {k nu no:Value} {pv st:Bs} {hv dv bv:Value} {bc:List Value} (hp:pv.length=32) (hs:st.length=32) (i:Nat):(Q8z k nu no pv st hv dv bv bc)[67+i]? =([hv,dv,bv]++bc)[i]? :=by
 have hl:(Q5z st).length=32:=by simp[Q5z,hs]
 rw[show 67+i=35+(32+i) by omega,msg_drop35 hp,List.getElem?_append_right (by omega),hl,Nat.add_sub_cancel_left]
theorem msg_bl {k nu no:Value} {pv st:Bs} {hv dv bv:Value} {bc:List Value} (hp:pv.length=32) (hs:st.length=32) (i:Nat) (v:Value) (h:bc[i]? =some v):(Q8z k nu no pv st hv dv bv bc)[70+i]? =some v:=by
 rw[show 70+i=67+(3+i) by omega,msg_drop67 hp hs,List.getElem?_append_right (by simp)]
 simpa using h
structure MsgAt (w:World) (g:Nat) (k nu no:Value) (pv st:Bs) (hv dv bv:Value) (bc:List Value):Prop where
 c0:w.cell? ⟨g,0,none⟩=some k
 c1:w.cell? ⟨g,1,none⟩=some nu
 c2:w.cell? ⟨g,2,none⟩=some no
 rp:w.rangeAt g 3 (Q5z pv)
 rs:w.rangeAt g 35 (Q5z st)
 c67:w.cell? ⟨g,67,none⟩=some hv
 c68:w.cell? ⟨g,68,none⟩=some dv
 c69:w.cell? ⟨g,69,none⟩=some bv
 rb:w.rangeAt g 70 bc
theorem Blk.msg {w:World} {g:Nat} {t:TypeId} {k nu no:Value} {pv st:Bs} {hv dv bv:Value} {bc:List Value} (hb:Blk w g t (Q8z k nu no pv st hv dv bv bc).toArray) (hp:pv.length=32) (hs:st.length=32):MsgAt w g k nu no pv st hv dv bv bc:=by
 have hc:∀i,w.cell? ⟨g,i,none⟩=(Q8z k nu no pv st hv dv bv bc)[i]? :=fun i=>by rw[hb.cell,List.getElem?_toArray]
 refine⟨hc 0,hc 1,hc 2,fun j v hj=>?_,fun j v hj=>?_,?_,?_,?_,fun j v hj=>?_⟩
 ·rw[hc];exact msg_pv j v hj
 ·rw[hc];exact msg_st hp j v hj
 ·rw[hc];exact msg_drop67 hp hs 0
 ·rw[hc];exact msg_drop67 hp hs 1
 ·rw[hc];exact msg_drop67 hp hs 2
 ·rw[hc];exact msg_bl hp hs j v hj
end Go.Proofs.YtjbijcjcejfpcaaGreatDoor
